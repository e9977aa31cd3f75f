/- Whether rows of texts lie apart, by the kit's bag: they do, where each has memory of its own. -/
import Derived.Test.YtldmniappliepaaGreatDoorY23
import Derived.Test.YtldmniappliepaaGreatDoorY24
import Derived.Test.YtldmniappliepaaGreatDoorY22
import Derived.Test.YtldmniappliepaaGreatDoorY11
import Derived.Test.YtldmniappliepaaGreatDoorY10
set_option linter.unusedVariables false
set_option linter.unusedSimpArgs false
set_option maxRecDepth 20000
set_option linter.defProp false
namespace Go.Proofs.YtldmniappliepaaGreatDoor
open Go Go.Av
section
def tbApC := And.intro (And.intro (And.intro (And.intro @tf3 (And.intro @tf4 @tf9)) (And.intro (And.intro @tf33 @tf35) (And.intro @tf72 @tf52))) (And.intro (And.intro @tf53 (And.intro @tf54 @tf55)) (And.intro (And.intro @tf56 @tf57) (And.intro @tf58 @tf59)))) (And.intro (And.intro (And.intro @tf31 (And.intro @tf60 @tf61)) (And.intro (And.intro @tf62 @tf63) (And.intro @tf64 @tf65))) (And.intro (And.intro @tf66 (And.intro @tf67 @tf68)) (And.intro (And.intro @tf69 @tf70) (And.intro @flat_rowA @isv_rowA))))
variable (G : Nat → AV)
structure BagT (σ0 σ : AS) (b : Nat) (xs : List Row) : Prop where
  fr : σ0.fresh b
  ex : ∃ v, σ.box b = some [.nil, .nil, .nil, .nil, v, .nil, .nil, .nil, .nil, .nil, .nil, .nil, .nil, .nil, .nil, .nil, .nil, .nil, .nil, .nil] ∧ Buf 1 σ0 σ v (xs.map (rowA 1 9))
theorem BagT.le {σ0 σ : AS} {b : Nat} {xs : List Row} (h : BagT σ0 σ b xs) : σ0.le σ := by
  obtain ⟨v, _, h2⟩ := h.ex; exact h2.le
theorem buf_row {n : Nat} {σ0 σ : AS} {v : AV} {l : List AV} (h : Buf n σ0 σ v l) : one v = true ∧ flat v = [v] ∧ isv v = true := by cases h <;> exact ⟨rfl, rfl, rfl⟩
theorem Buf.setQ {n : Nat} {σ0 σ : AS} {v : AV} {l : List AV} (h : Buf n σ0 σ v l) {b : Nat} (hb : σ0.fresh b) (x : List AV) : Buf n σ0 (σ.setBox b x) v l := by
  cases h with
  | nil h => exact .nil (le_set hb h)
  | own b' xs h h0 ht hx => exact .own b' l (le_set hb h) h0 (by simpa [AS.setBox] using ht) hx
theorem fsRE : el Tryz.prog 35 = some 33 := tf35.2.2.2.1
theorem one_cell {r : Row} : (flat (rowA 1 9 r)).length = 1 := by rw [flat_rowA]; rfl
theorem putTexts_tri (xs : List Row) (r : Row) (σ0 σ : AS) (b : Nat) (hn : xs.length ≤ 1000000) (h : BagT σ0 σ b xs) :
    Tri Tryz.prog G 25 [.ptr b 0, rowA 1 9 r] σ fun x σ' => x = .tup [] ∧ BagT σ0 σ' b (xs ++ [r]) := by
  obtain ⟨hfr, v, hb, hB⟩ := h
  obtain ⟨o1, o2, o3⟩ := buf_row hB
  refine Tri.of_awp mixed Tryz.func25 rfl (by kernel_rfl) (by kernel_rfl) (by simp [Tryz.ntmps25]) Tryz.results25 ?_
  repeat' (first | refine xs ?_ ?_ <;> intros | ((first | refine xh ?_ | refine xi ?_); intro bx hbx; (try simp only [fb] at hbx)) | (refine build_one fsR (a := rowA 1 9 r) (isv_rowA _ _ _) one_cell (by omega) ?_) | (refine app_buf (ys := [rowA 1 9 r]) hB fsR (asrc_sl fsRE) (fun a ha => by simp at ha; subst ha; exact one_cell) (by simp; omega) (fun v3 σ3 hB4 hx4 => ?_)) | refine xj ?_ | refine cv_plain ?_ | ((with_reducible refine And.intro ?_ ?_); omega) | refine bo_buildSlice (d' := ⟨⟩) ?_ | refine xk (by kernel_rfl) ?_ | refine xf ?_ (by repeat' first | exact lr _ | assumption | refine ls ?_ ?_ | refine lt ?_ ?_ | simp only [*]; done | simp only [fb, *, not_false_eq_true, and_self]; done | exact lf ‹_› (by simp only [*])) | refine finish_two ?_ (by repeat' first | exact lr _ | assumption | refine ls ?_ ?_ | refine lt ?_ ?_ | simp only [*]; done | simp only [fb, *, not_false_eq_true, and_self]; done | exact lf ‹_› (by simp only [*])) | simp -dsimp only [↓bp, bq, br, seval, tbApC, *] | refine cv_any ?_)
  obtain ⟨p1, p2, p3⟩ := buf_row hB4
  refine ⟨⟨p3, by rw [p2]; rfl⟩, ?_⟩
  rw [p2]
  refine finishW_some _ (AS.le.refl _) ⟨rfl, hfr, v3, by simp [AS.setBox], ?_⟩
  rw [List.map_append]
  exact Buf.setQ hB4 hfr _
theorem mem_inS {rs : List Row} {b : Nat} {σ : AS} (h0 : ∀ (j b n : Nat), rs[j]? = some (some (b, n)) → ∃ cs, σ.box b = some cs ∧ n * 1 ≤ cs.length) (hb : σ.box b = none) : ¬ InS rs b := fun ⟨n, hn⟩ => by
  obtain ⟨j, hj⟩ := List.getElem?_of_mem hn
  obtain ⟨cs, h1, _⟩ := h0 j b n hj
  rw [hb] at h1; cases h1
set_option maxHeartbeats 2000000 in
theorem apartT_tri (rs : List Row) (hd : Distinct rs) (hN : rs.length ≤ 1000000) (hn : ∀ (k : Nat) (r : Row), rs[k]? = some r → rlen r ≤ 1000000000) (σ0 σ : AS) (b : Nat) (h0 : ∀ (j b n : Nat), rs[j]? = some (some (b, n)) → ∃ cs, σ0.box b = some cs ∧ n * 1 ≤ cs.length) (h : BagT σ0 σ b rs) :
    Tri Tryz.prog G 24 [.ptr b 0] σ fun r σ' => r = .bool true ∧ LeX (InS rs) σ0 σ' := by
  have hle := h.le
  obtain ⟨hfr, v, hb, hB⟩ := h
  have hnb := mem_inS h0 hfr.1
  have hF := flatTexts_tri G rs hd hN hn σ (fun j b n hj => by
    obtain ⟨cs, h1, h2⟩ := h0 j b n hj
    exact ⟨cs, hle.box _ _ h1, h2⟩)
  have hF : Tri Tryz.prog G 55 [v] σ _ := Tri.weaken (.cons hB.told .nil) hF
  have hx0 : LeX (InS rs) σ0 σ := ⟨fun b cs _ hc => hle.box b cs hc, hle.tip, hle.ty⟩
  clear h0 hB hle hd hN hn
  have f1 := flatLimbs_nil G
  have f2 := flatWords_nil G
  have f3 := flatInts_nil G
  have f4 := flatLongs_nil G
  have f6 := flatBytes_nil G
  have f7 := flatFaults_nil G
  have f8 := flatTerms_nil G
  have f9 := flatTokens_nil G
  have f10 := flatNodes_nil G
  have f11 := flatCores_nil G
  have f12 := flatFuncs_nil G
  have f13 := flatPrograms_nil G
  have f14 := flatInstrs_nil G
  have f15 := flatEntries_nil G
  have f16 := flatCodes_nil G
  have f17 := flatSteps_nil G
  have f18 := flatEndeds_nil G
  have f19 := flatNameds_nil G
  have f20 := flatSeens_nil G
  refine Tri.of_awp mixed Tryz.func24 rfl (by kernel_rfl) (by kernel_rfl) (by simp [Tryz.ntmps24]) Tryz.results24 ?_
  repeat' (first | refine xs ?_ ?_ <;> intros | ((first | refine xh ?_ | refine xi ?_); intro bx hbx; (try simp only [fb] at hbx)) | refine Pure.use (f1) ?_ | refine Pure.head (f1) ?_ | refine Pure.use (f2) ?_ | refine Pure.head (f2) ?_ | refine Pure.use (f3) ?_ | refine Pure.head (f3) ?_ | refine Pure.use (f4) ?_ | refine Pure.head (f4) ?_ | ((refine Tri.mono hF ?_; rintro r s2 ⟨rfl, hX⟩; have hb2 := hX.box _ _ hnb hb)) | refine Pure.use (f6) ?_ | refine Pure.head (f6) ?_ | refine Pure.use (f7) ?_ | refine Pure.head (f7) ?_ | refine Pure.use (f8) ?_ | refine Pure.head (f8) ?_ | refine Pure.use (f9) ?_ | refine Pure.head (f9) ?_ | refine Pure.use (f10) ?_ | refine Pure.head (f10) ?_ | refine Pure.use (f11) ?_ | refine Pure.head (f11) ?_ | refine Pure.use (f12) ?_ | refine Pure.head (f12) ?_ | refine Pure.use (f13) ?_ | refine Pure.head (f13) ?_ | refine Pure.use (f14) ?_ | refine Pure.head (f14) ?_ | refine Pure.use (f15) ?_ | refine Pure.head (f15) ?_ | refine Pure.use (f16) ?_ | refine Pure.head (f16) ?_ | refine Pure.use (f17) ?_ | refine Pure.head (f17) ?_ | refine Pure.use (f18) ?_ | refine Pure.head (f18) ?_ | refine Pure.use (f19) ?_ | refine Pure.head (f19) ?_ | refine Pure.use (f20) ?_ | refine Pure.head (f20) ?_ | refine xj ?_ | refine cv_plain ?_ | ((with_reducible refine And.intro ?_ ?_); omega) | refine bo_buildSlice (d' := ⟨⟩) ?_ | refine xk (by kernel_rfl) ?_ | refine xf ?_ (by repeat' first | exact lr _ | assumption | refine ls ?_ ?_ | refine lt ?_ ?_ | simp only [*]; done | simp only [fb, *, not_false_eq_true, and_self]; done | exact lf ‹_› (by simp only [*])) | refine finish_two ?_ (by repeat' first | exact lr _ | assumption | refine ls ?_ ?_ | refine lt ?_ ?_ | simp only [*]; done | simp only [fb, *, not_false_eq_true, and_self]; done | exact lf ‹_› (by simp only [*])) | simp -dsimp only [↓bp, bq, br, seval, tbApC, *] | refine cv_any ?_)
  exact finishW_some _ (AS.le.refl _) ⟨rfl, hx0.trans hX⟩
theorem apartTexts_tri (rs : List Row) (g : Gh) (hd : Distinct rs) (hN : rs.length ≤ 1000000) (hn : ∀ (k : Nat) (r : Row), rs[k]? = some r → rlen r ≤ 1000000000) (σ : AS) (h0 : ∀ (j b n : Nat), rs[j]? = some (some (b, n)) → ∃ cs, σ.box b = some cs ∧ n * 1 ≤ cs.length) :
    Tri Tryz.prog G 10 [.sl g (rs.map (rowA 1 9)) []] σ fun r σ' => r = .bool true ∧ LeX (InS rs) σ σ' := by
  refine Tri.weaken (.cons Le.gh .nil) ?_
  have hA := fun (σ' : AS) (b : Nat) (h : BagT σ σ' b rs) => apartT_tri G rs hd hN hn σ σ' b h0 h
  clear hd hn h0
  refine Tri.of_awp mixed Tryz.func10 rfl (by kernel_rfl) (by kernel_rfl) (by simp [Tryz.ntmps10]) Tryz.results10 ?_
  simp -dsimp only [↓bp, bq, br, seval, tbApC]
  refine newW_intro fun b hb => ?_
  have hB0 : BagT σ (σ.setBox b [.nil, .nil, .nil, .nil, .nil, .nil, .nil, .nil, .nil, .nil, .nil, .nil, .nil, .nil, .nil, .nil, .nil, .nil, .nil, .nil]) b [] := ⟨hb, .nil, by simp [AS.setBox], Buf.setQ (.nil (AS.le.refl σ)) hb _⟩
  generalize σ.setBox b [.nil, .nil, .nil, .nil, .nil, .nil, .nil, .nil, .nil, .nil, .nil, .nil, .nil, .nil, .nil, .nil, .nil, .nil, .nil, .nil] = S0 at *
  repeat' (first | refine xs ?_ ?_ <;> intros | ((first | refine xh ?_ | refine xi ?_); intro bx hbx; (try simp only [fb] at hbx)) | refine xj ?_ | refine cv_plain ?_ | ((with_reducible refine And.intro ?_ ?_); omega) | refine bo_buildSlice (d' := ⟨⟩) ?_ | refine xk (by kernel_rfl) ?_ | refine xf ?_ (by repeat' first | exact lr _ | assumption | refine ls ?_ ?_ | refine lt ?_ ?_ | simp only [*]; done | simp only [fb, *, not_false_eq_true, and_self]; done | exact lf ‹_› (by simp only [*])) | refine finish_two ?_ (by repeat' first | exact lr _ | assumption | refine ls ?_ ?_ | refine lt ?_ ?_ | simp only [*]; done | simp only [fb, *, not_false_eq_true, and_self]; done | exact lf ‹_› (by simp only [*])) | simp -dsimp only [↓bp, bq, br, seval, tbApC, *] | refine cv_any ?_)
  refine loop_intro (fun n e σ' => ∃ i : Nat, i ≤ rs.length ∧ n = rs.length - i ∧ e 4 = .int .i64 i ∧ BagT σ σ' b (rs.take i)) rs.length
    ⟨0, by omega, by omega, by first | (simp -dsimp only [↓bp, bq, br, seval, tbApC]; done) | (simp -dsimp only [↓bp, bq, br, seval, tbApC]; try rfl), by simpa using hB0⟩ ?_
  clear hB0
  rintro n e σ2 ⟨i, hi, rfl, h4, hB⟩
  simp -dsimp only [↓bp, bq, br, seval, tbApC] at h4
  by_cases hlt : (i : Int) < rs.length
  · obtain ⟨x, hx⟩ : ∃ x, rs[i]? = some x := ⟨_, List.getElem?_eq_getElem (by omega)⟩
    have hwi : IntKind.i64.wrap ((i : Int) + 1) = ((i + 1 : Nat) : Int) := by rw [wrap_nat (by omega) (by omega)]; rfl
    have hp := putTexts_tri G (rs.take i) x σ σ2 b (by rw [List.length_take]; omega) hB
    rw [← take_succ_get _ _ _ hx] at hp
    have hlt' := eq_true hlt
    clear hA hB
    repeat' (first | refine xs ?_ ?_ <;> intros | ((first | refine xh ?_ | refine xi ?_); intro bx hbx; (try simp only [fb] at hbx)) | ((refine Tri.mono hp ?_; rintro r s2 ⟨rfl, hB2⟩)) | refine xj ?_ | refine cv_plain ?_ | ((with_reducible refine And.intro ?_ ?_); omega) | refine bo_buildSlice (d' := ⟨⟩) ?_ | refine xk (by kernel_rfl) ?_ | refine xf ?_ (by repeat' first | exact lr _ | assumption | refine ls ?_ ?_ | refine lt ?_ ?_ | simp only [*]; done | simp only [fb, *, not_false_eq_true, and_self]; done | exact lf ‹_› (by simp only [*])) | refine finish_two ?_ (by repeat' first | exact lr _ | assumption | refine ls ?_ ?_ | refine lt ?_ ?_ | simp only [*]; done | simp only [fb, *, not_false_eq_true, and_self]; done | exact lf ‹_› (by simp only [*])) | simp -dsimp only [↓bp, bq, br, seval, tbApC, *] | refine cv_any ?_)
    all_goals exact ⟨rs.length - (i + 1), by omega, i + 1, by omega, rfl, rfl, hB2⟩
  · have : i = rs.length := by omega
    subst this
    rw [List.take_length] at hB
    have hlt' := eq_false hlt
    have hp := hA σ2 b hB
    clear hA hB
    repeat' (first | refine xs ?_ ?_ <;> intros | ((first | refine xh ?_ | refine xi ?_); intro bx hbx; (try simp only [fb] at hbx)) | ((refine Tri.mono hp ?_; rintro r s2 ⟨rfl, hX⟩)) | refine xj ?_ | refine cv_plain ?_ | ((with_reducible refine And.intro ?_ ?_); omega) | refine bo_buildSlice (d' := ⟨⟩) ?_ | refine xk (by kernel_rfl) ?_ | refine xf ?_ (by repeat' first | exact lr _ | assumption | refine ls ?_ ?_ | refine lt ?_ ?_ | simp only [*]; done | simp only [fb, *, not_false_eq_true, and_self]; done | exact lf ‹_› (by simp only [*])) | refine finish_two ?_ (by repeat' first | exact lr _ | assumption | refine ls ?_ ?_ | refine lt ?_ ?_ | simp only [*]; done | simp only [fb, *, not_false_eq_true, and_self]; done | exact lf ‹_› (by simp only [*])) | simp -dsimp only [↓bp, bq, br, seval, tbApC, *] | refine cv_any ?_)
    all_goals exact finishW_some _ (AS.le.refl _) ⟨rfl, hX⟩
end
set_option maxRecDepth 20000
section
def tbFlatK := And.intro (And.intro (And.intro @tf3 (And.intro @tf4 @tf5)) (And.intro @tf124 (And.intro @tf9 @tf41))) (And.intro (And.intro @tf23 (And.intro @tf43 @tf31)) (And.intro @flat_rowA (And.intro @l_row @isv_rowA)))
variable (G : Nat → AV)
theorem fkN : aelt Tryz.prog 23 = some (43, 3, 32) := tf23.2.2.2.2.2.2
theorem fkE : el Tryz.prog 23 = some 43 := tf23.2.2.2.1
theorem fkR : aelt Tryz.prog 31 = some (23, 1, 24) := tf31.2.2.2.2.2.2
theorem fkZ : (el Tryz.prog 23).bind (zc Tryz.prog) = some [.int .u8 0, .str [], .int .i64 0] := by kernel_rfl
theorem fkY : (el Tryz.prog 31).bind (zc Tryz.prog) = some [.nil] := by kernel_rfl
theorem markK_pure (k i : Int) : Pure Tryz.prog G 90 [.int .i64 k, .int .i64 i] (.agg [.int .u8 0, .str [], .int .i64 (markI k i)]) := by
  intro σ
  refine Tri.of_awp mixed Tryz.func90 rfl (by kernel_rfl) (by kernel_rfl) (by simp [Tryz.ntmps90]) Tryz.results90 ?_
  repeat' (first | refine xs ?_ ?_ <;> intros | ((first | refine xh ?_ | refine xi ?_); intro bx hbx; (try simp only [fb] at hbx)) | refine Pure.use (by apply mark_pure <;> (first | assumption | omega | (simp only [*]; done))) ?_ | refine xj ?_ | refine cv_plain ?_ | ((with_reducible refine And.intro ?_ ?_); omega) | refine bo_buildSlice (d' := ⟨⟩) ?_ | refine xk (by kernel_rfl) ?_ | refine xf ?_ (by repeat' first | exact lr _ | assumption | refine ls ?_ ?_ | refine lt ?_ ?_ | simp only [*]; done | simp only [fb, *, not_false_eq_true, and_self]; done | exact lf ‹_› (by simp only [*])) | refine finish_two ?_ (by repeat' first | exact lr _ | assumption | refine ls ?_ ?_ | refine lt ?_ ?_ | simp only [*]; done | simp only [fb, *, not_false_eq_true, and_self]; done | exact lf ‹_› (by simp only [*])) | simp -dsimp only [↓bp, bq, br, seval, tbFlatK, *] | refine cv_any ?_)
  all_goals rfl
theorem eqMkK (k i : Int) : abin Tryz.prog .eql 43 (.agg [.int .u8 0, .str [], .int .i64 (markI k i)]) (.agg [.int .u8 0, .str [], .int .i64 (markI k i)]) = some (.bool true) := by
  rw [abin_agg, eqK_tok]
  simp [fe_int, fe_str, fe_nil, aeq]
def mkK (k i : Int) : AV := .agg [.int .u8 0, .str [], .int .i64 (markI k i)]
theorem mkK_len (k i : Int) : (flat (mkK k i)).length = 3 := rfl
set_option maxHeartbeats 8000000 in
theorem flatTokens_tri (rs : List Row) (hd : Distinct rs) (hN : rs.length ≤ 1000000) (hn : ∀ (k : Nat) (r : Row), rs[k]? = some r → rlen r ≤ 1000000000) (σ : AS) (h0 : ∀ (j b n : Nat), rs[j]? = some (some (b, n)) → ∃ cs, σ.box b = some cs ∧ n * 3 ≤ cs.length) :
    Tri Tryz.prog G 59 [.sl .none (rs.map (rowA 3 43)) []] σ fun r σ' => r = .bool true ∧ LeX (InS rs) σ σ' := by
  have hM0 : Marked mkK 3 rs σ 0 := fun j b n hj => by
    obtain ⟨cs, h1, h2⟩ := h0 j b n hj
    exact ⟨cs, h1, by rw [if_neg (by omega)]; exact List.nil_prefix, h2⟩
  have hinS : ∀ (k b n : Nat), rs[k]? = some (some (b, n)) → InS rs b := fun k b n h => ⟨n, List.mem_of_getElem? h⟩
  clear h0
  refine Tri.of_awp mixed Tryz.func59 rfl (by kernel_rfl) (by kernel_rfl) (by simp [Tryz.ntmps59]) Tryz.results59 ?_
  repeat' (first | refine xs ?_ ?_ <;> intros | ((first | refine xh ?_ | refine xi ?_); intro bx hbx; (try simp only [fb] at hbx)) | refine xj ?_ | refine cv_plain ?_ | ((with_reducible refine And.intro ?_ ?_); omega) | refine bo_buildSlice (d' := ⟨⟩) ?_ | refine xk (by kernel_rfl) ?_ | refine xf ?_ (by repeat' first | exact lr _ | assumption | refine ls ?_ ?_ | refine lt ?_ ?_ | simp only [*]; done | simp only [fb, *, not_false_eq_true, and_self]; done | exact lf ‹_› (by simp only [*])) | refine finish_two ?_ (by repeat' first | exact lr _ | assumption | refine ls ?_ ?_ | refine lt ?_ ?_ | simp only [*]; done | simp only [fb, *, not_false_eq_true, and_self]; done | exact lf ‹_› (by simp only [*])) | simp -dsimp only [↓bp, bq, br, seval, tbFlatK, *] | refine cv_any ?_)
  -- each is marked
  refine loop_intro (fun n e σ' => ∃ k, k ≤ rs.length ∧ n = rs.length - k ∧ e 3 = .int .i64 (k : Nat) ∧ LeX (InS rs) σ σ' ∧ Marked mkK 3 rs σ' k) rs.length
    ⟨0, by omega, by omega, by simp -dsimp only [↓bp, bq, br, seval, tbFlatK]; first | done | rfl, LeX.refl _ _, hM0⟩ ?_
  clear hM0
  rintro n e1 σ1 ⟨k, hk, rfl, h3, hL, hM⟩
  simp -dsimp only [↓bp, bq, br, seval, tbFlatK] at h3
  by_cases hlt : k < rs.length
  · have hc : ((k : Int) < rs.length) = True := eq_true (by omega)
    obtain ⟨r, hr⟩ : ∃ r, rs[k]? = some r := ⟨_, List.getElem?_eq_getElem hlt⟩
    have hrl := hn k r hr
    clear hn
    repeat' (first | refine xs ?_ ?_ <;> intros | ((first | refine xh ?_ | refine xi ?_); intro bx hbx; (try simp only [fb] at hbx)) | refine xj ?_ | refine cv_plain ?_ | ((with_reducible refine And.intro ?_ ?_); omega) | refine bo_buildSlice (d' := ⟨⟩) ?_ | refine xk (by kernel_rfl) ?_ | refine xf ?_ (by repeat' first | exact lr _ | assumption | refine ls ?_ ?_ | refine lt ?_ ?_ | simp only [*]; done | simp only [fb, *, not_false_eq_true, and_self]; done | exact lf ‹_› (by simp only [*])) | refine finish_two ?_ (by repeat' first | exact lr _ | assumption | refine ls ?_ ?_ | refine lt ?_ ?_ | simp only [*]; done | simp only [fb, *, not_false_eq_true, and_self]; done | exact lf ‹_› (by simp only [*])) | simp -dsimp only [↓bp, bq, br, seval, tbFlatK, *] | refine cv_any ?_)
    refine loop_intro (fun n e σ' => ∃ i, i ≤ rlen r ∧ n = rlen r - i ∧ e 4 = .int .i64 (i : Nat) ∧ LeX (InS rs) σ σ' ∧ Marked mkK 3 rs σ' k ∧ ∀ b n, r = some (b, n) → Pre σ' b (cells mkK k i) (n * 3)) (rlen r)
      ⟨0, by omega, by omega, by simp -dsimp only [↓bp, bq, br, seval, tbFlatK]; first | done | rfl, hL, hM, fun b n hb => by subst hb; have := hM k b n hr; rwa [if_neg (by omega)] at this⟩ ?_
    clear hL hM
    rintro n e2 σ2 ⟨i, hi, rfl, h4, hL, hM, hP⟩
    simp -dsimp only [↓bp, bq, br, seval, tbFlatK] at h4
    by_cases hil : i < rlen r
    · have hci : ((i : Int) < rlen r) = True := eq_true (by omega)
      have hwi : IntKind.i64.wrap ((i : Int) + 1) = ((i + 1 : Nat) : Int) := by rw [wrap_nat (by omega) (by omega)]; rfl
      rcases r with _ | ⟨b, n⟩
      · simp [rlen] at hil
      · obtain ⟨cs, hcs, hpre, hcl⟩ := hP b n rfl
        have hin := hinS k b n hr
        have hbi : i < n := hil
        have hil' : (i : Int) < n := by omega
        have hco : i * 3 + 3 ≤ cs.length := by omega
        have hst := pre_step (mk := mkK) (k := k) (cs := cs) mkK_len hpre (by omega)
        clear hP hrl hinS
        repeat' (first | refine xs ?_ ?_ <;> intros | ((first | refine xh ?_ | refine xi ?_); intro bx hbx; (try simp only [fb] at hbx)) | refine Pure.use (markK_pure G k i) ?_ | refine Pure.head (markK_pure G k i) ?_ | refine xj ?_ | refine cv_plain ?_ | ((with_reducible refine And.intro ?_ ?_); omega) | refine bo_buildSlice (d' := ⟨⟩) ?_ | refine xk (by kernel_rfl) ?_ | refine xf ?_ (by repeat' first | exact lr _ | assumption | refine ls ?_ ?_ | refine lt ?_ ?_ | simp only [*]; done | simp only [fb, *, not_false_eq_true, and_self]; done | exact lf ‹_› (by simp only [*])) | refine finish_two ?_ (by repeat' first | exact lr _ | assumption | refine ls ?_ ?_ | refine lt ?_ ?_ | simp only [*]; done | simp only [fb, *, not_false_eq_true, and_self]; done | exact lf ‹_› (by simp only [*])) | simp -dsimp only [↓bp, bq, br, seval, tbFlatK, rowA, rlen, *] | refine cv_any ?_)
        all_goals
          refine ⟨n - (i + 1), by omega, i + 1, by first | omega | (simp only [rlen]; omega), by first | rfl | simp only [rlen], rfl, hL.set_in hin _, hM.set hd hr (by rw [if_neg (Nat.lt_irrefl _)]; exact List.nil_prefix) (hst.2.symm ▸ hcl), fun b' n' h => ?_⟩
          simp only [Option.some.injEq, Prod.mk.injEq] at h
          obtain ⟨rfl, rfl⟩ := h
          exact ⟨_, AS.set_get, hst.1, hst.2.symm ▸ hcl⟩
    · have : i = rlen r := by omega
      subst this
      have hci : ((rlen r : Int) < rlen r) = False := eq_false (by omega)
      have hwk : IntKind.i64.wrap ((k : Int) + 1) = ((k + 1 : Nat) : Int) := by rw [wrap_nat (by omega) (by omega)]; rfl
      clear hinS
      repeat' (first | refine xs ?_ ?_ <;> intros | ((first | refine xh ?_ | refine xi ?_); intro bx hbx; (try simp only [fb] at hbx)) | refine xj ?_ | refine cv_plain ?_ | ((with_reducible refine And.intro ?_ ?_); omega) | refine bo_buildSlice (d' := ⟨⟩) ?_ | refine xk (by kernel_rfl) ?_ | refine xf ?_ (by repeat' first | exact lr _ | assumption | refine ls ?_ ?_ | refine lt ?_ ?_ | simp only [*]; done | simp only [fb, *, not_false_eq_true, and_self]; done | exact lf ‹_› (by simp only [*])) | refine finish_two ?_ (by repeat' first | exact lr _ | assumption | refine ls ?_ ?_ | refine lt ?_ ?_ | simp only [*]; done | simp only [fb, *, not_false_eq_true, and_self]; done | exact lf ‹_› (by simp only [*])) | simp -dsimp only [↓bp, bq, br, seval, tbFlatK, *] | refine cv_any ?_)
      all_goals
        exact ⟨rs.length - (k + 1), by omega, k + 1, by omega, rfl, rfl, hM.next fun b n h => by
          have e : r = some (b, n) := by rw [hr] at h; simpa using h
          subst e
          exact hP b n rfl⟩
  · have : k = rs.length := by omega
    subst this
    have hc : ((rs.length : Int) < rs.length) = False := eq_false (by omega)
    clear hk hlt
    repeat' (first | refine xs ?_ ?_ <;> intros | ((first | refine xh ?_ | refine xi ?_); intro bx hbx; (try simp only [fb] at hbx)) | refine xj ?_ | refine cv_plain ?_ | ((with_reducible refine And.intro ?_ ?_); omega) | refine bo_buildSlice (d' := ⟨⟩) ?_ | refine xk (by kernel_rfl) ?_ | refine xf ?_ (by repeat' first | exact lr _ | assumption | refine ls ?_ ?_ | refine lt ?_ ?_ | simp only [*]; done | simp only [fb, *, not_false_eq_true, and_self]; done | exact lf ‹_› (by simp only [*])) | refine finish_two ?_ (by repeat' first | exact lr _ | assumption | refine ls ?_ ?_ | refine lt ?_ ?_ | simp only [*]; done | simp only [fb, *, not_false_eq_true, and_self]; done | exact lf ‹_› (by simp only [*])) | simp -dsimp only [↓bp, bq, br, seval, tbFlatK, *] | refine cv_any ?_)
    refine make_row rs.length fkR fkY (by omega) (fun bg hg => ?_)
    have hI0 : GInv mkK 3 43 rs 64 σ bg (List.replicate rs.length [AV.nil]).flatten 0 (σ1.setBox bg (List.replicate rs.length [AV.nil]).flatten) :=
      ⟨hL.set_fresh hg _, hM.fresh hg.1 _, AS.set_get, by simp, (by
        cases e : σ.box bg with
        | none => rfl
        | some cs => have := hL.box bg cs (hM.notIn hg.1) e; rw [hg.1] at this; cases this), hM.notIn hg.1, fun j hj => by omega⟩
    clear hL hM hg
    repeat' (first | refine xs ?_ ?_ <;> intros | ((first | refine xh ?_ | refine xi ?_); intro bx hbx; (try simp only [fb] at hbx)) | refine xj ?_ | refine cv_plain ?_ | ((with_reducible refine And.intro ?_ ?_); omega) | refine bo_buildSlice (d' := ⟨⟩) ?_ | refine xk (by kernel_rfl) ?_ | refine xf ?_ (by repeat' first | exact lr _ | assumption | refine ls ?_ ?_ | refine lt ?_ ?_ | simp only [*]; done | simp only [fb, *, not_false_eq_true, and_self]; done | exact lf ‹_› (by simp only [*])) | refine finish_two ?_ (by repeat' first | exact lr _ | assumption | refine ls ?_ ?_ | refine lt ?_ ?_ | simp only [*]; done | simp only [fb, *, not_false_eq_true, and_self]; done | exact lf ‹_› (by simp only [*])) | simp -dsimp only [↓bp, bq, br, seval, tbFlatK, *] | refine cv_any ?_)
    -- each grows, one by one
    refine loop_intro (fun n e σ' => ∃ k, k ≤ rs.length ∧ n = rs.length - k ∧ e 6 = .int .i64 (k : Nat) ∧ ∃ gl, GInv mkK 3 43 rs 64 σ bg gl k σ') rs.length
      ⟨0, by omega, by omega, by simp -dsimp only [↓bp, bq, br, seval, tbFlatK]; first | done | rfl, _, hI0⟩ ?_
    clear hI0
    rintro n e2 σ2 ⟨k, hk, rfl, h6, gl, hI⟩
    simp -dsimp only [↓bp, bq, br, seval, tbFlatK] at h6
    by_cases hlt : k < rs.length
    · have hc : ((k : Int) < rs.length) = True := eq_true (by omega)
      obtain ⟨r, hr⟩ : ∃ r, rs[k]? = some r := ⟨_, List.getElem?_eq_getElem hlt⟩
      have hrl := hn k r hr
      have hV0 := hI.start hd hr
      clear hn hinS
      repeat' (first | refine xs ?_ ?_ <;> intros | ((first | refine xh ?_ | refine xi ?_); intro bx hbx; (try simp only [fb] at hbx)) | refine xj ?_ | refine cv_plain ?_ | ((with_reducible refine And.intro ?_ ?_); omega) | refine bo_buildSlice (d' := ⟨⟩) ?_ | refine xk (by kernel_rfl) ?_ | refine xf ?_ (by repeat' first | exact lr _ | assumption | refine ls ?_ ?_ | refine lt ?_ ?_ | simp only [*]; done | simp only [fb, *, not_false_eq_true, and_self]; done | exact lf ‹_› (by simp only [*])) | refine finish_two ?_ (by repeat' first | exact lr _ | assumption | refine ls ?_ ?_ | refine lt ?_ ?_ | simp only [*]; done | simp only [fb, *, not_false_eq_true, and_self]; done | exact lf ‹_› (by simp only [*])) | simp -dsimp only [↓bp, bq, br, seval, tbFlatK, *] | refine cv_any ?_)
      refine loop_intro (fun n e σ' => ∃ i v, i ≤ 64 ∧ n = 64 - i ∧ e 8 = .int .i64 (i : Nat) ∧ e 7 = v ∧ GInv mkK 3 43 rs 64 σ bg gl k σ' ∧ GV mkK 3 43 rs σ bg gl k σ' v (rlen r + i) (rlen r + i)) 64
        ⟨0, _, by omega, by omega, by simp -dsimp only [↓bp, bq, br, seval, tbFlatK]; first | done | rfl, by simp -dsimp only [↓bp, bq, br, seval, tbFlatK]; first | done | rfl, hI, hV0⟩ ?_
      clear hI hV0
      rintro n e3 σ3 ⟨i, v, hi, rfl, h8, h7, hI, hV⟩
      simp -dsimp only [↓bp, bq, br, seval, tbFlatK] at h8 h7
      by_cases hil : i < 64
      · have hci : ((i : Int) < 64) = True := eq_true (by omega)
        have hwi : IntKind.i64.wrap ((i : Int) + 1) = ((i + 1 : Nat) : Int) := by rw [wrap_nat (by omega) (by omega)]; rfl
        have hwm : IntKind.i64.wrap ((rlen r : Int) + i) = ((rlen r + i : Nat) : Int) := by rw [wrap_nat (by omega) (by omega)]; rfl
        repeat' (first | refine xs ?_ ?_ <;> intros | ((first | refine xh ?_ | refine xi ?_); intro bx hbx; (try simp only [fb] at hbx)) | refine Pure.use (markK_pure G k ((rlen r + i : Nat) : Int)) ?_ | refine Pure.head (markK_pure G k ((rlen r + i : Nat) : Int)) ?_ | (refine app_grow (ys := [mkK k ((rlen r + i : Nat) : Int)]) (p' := rlen r + i + 1) (q := 1) mkK_len hd fkN (.inl (asrc_sl fkE)) (fun a ha => by simp at ha; subst ha; rfl) rfl (by omega) (by omega) hI hV (by omega) (by omega) (by rw [cells_succ]; simp) (fun v' σ4 hI' hV' => ?_)) | refine xj ?_ | refine cv_plain ?_ | ((with_reducible refine And.intro ?_ ?_); omega) | refine bo_buildSlice (d' := ⟨⟩) ?_ | refine xk (by kernel_rfl) ?_ | refine xf ?_ (by repeat' first | exact lr _ | assumption | refine ls ?_ ?_ | refine lt ?_ ?_ | simp only [*]; done | simp only [fb, *, not_false_eq_true, and_self]; done | exact lf ‹_› (by simp only [*])) | refine finish_two ?_ (by repeat' first | exact lr _ | assumption | refine ls ?_ ?_ | refine lt ?_ ?_ | simp only [*]; done | simp only [fb, *, not_false_eq_true, and_self]; done | exact lf ‹_› (by simp only [*])) | simp -dsimp only [↓bp, bq, br, seval, tbFlatK, List.length_singleton, *] | refine cv_any ?_)
        all_goals exact ⟨64 - (i + 1), by omega, i + 1, _, by omega, rfl, rfl, rfl, hV'⟩
      · have : i = 64 := by omega
        subst this
        have hci : (((64 : Nat) : Int) < 64) = False := eq_false (by omega)
        have hwk : IntKind.i64.wrap ((k : Int) + 1) = ((k + 1 : Nat) : Int) := by rw [wrap_nat (by omega) (by omega)]; rfl
        have hS := hI.store hr hV (Nat.le_refl _)
        obtain ⟨c, rfl⟩ : ∃ c, v = .bs c (rlen r + 64) 3 43 := by
          obtain ⟨_, _, _, _, ⟨_, h⟩ | ⟨c, h, _⟩⟩ := hV
          · omega
          · exact ⟨c, h⟩
        have hgb := hI.gbox
        have hgl := hI.glen
        have hkg : k * 1 + 1 ≤ gl.length := by omega
        have hki : 0 ≤ (k : Int) ∧ (k : Int) < rs.length := by omega
        clear hV hI
        repeat' (first | refine xs ?_ ?_ <;> intros | ((first | refine xh ?_ | refine xi ?_); intro bx hbx; (try simp only [fb] at hbx)) | refine xj ?_ | refine cv_plain ?_ | ((with_reducible refine And.intro ?_ ?_); omega) | refine bo_buildSlice (d' := ⟨⟩) ?_ | refine xk (by kernel_rfl) ?_ | refine xf ?_ (by repeat' first | exact lr _ | assumption | refine ls ?_ ?_ | refine lt ?_ ?_ | simp only [*]; done | simp only [fb, *, not_false_eq_true, and_self]; done | exact lf ‹_› (by simp only [*])) | refine finish_two ?_ (by repeat' first | exact lr _ | assumption | refine ls ?_ ?_ | refine lt ?_ ?_ | simp only [*]; done | simp only [fb, *, not_false_eq_true, and_self]; done | exact lf ‹_› (by simp only [*])) | simp -dsimp only [↓bp, bq, br, seval, tbFlatK, *] | refine cv_any ?_)
        all_goals exact ⟨rs.length - (k + 1), by omega, k + 1, by omega, rfl, rfl, _, by rw [Nat.mul_one]; exact hS⟩
    · have : k = rs.length := by omega
      subst this
      have hc : ((rs.length : Int) < rs.length) = False := eq_false (by omega)
      clear hk hlt
      repeat' (first | refine xs ?_ ?_ <;> intros | ((first | refine xh ?_ | refine xi ?_); intro bx hbx; (try simp only [fb] at hbx)) | refine xj ?_ | refine cv_plain ?_ | ((with_reducible refine And.intro ?_ ?_); omega) | refine bo_buildSlice (d' := ⟨⟩) ?_ | refine xk (by kernel_rfl) ?_ | refine xf ?_ (by repeat' first | exact lr _ | assumption | refine ls ?_ ?_ | refine lt ?_ ?_ | simp only [*]; done | simp only [fb, *, not_false_eq_true, and_self]; done | exact lf ‹_› (by simp only [*])) | refine finish_two ?_ (by repeat' first | exact lr _ | assumption | refine ls ?_ ?_ | refine lt ?_ ?_ | simp only [*]; done | simp only [fb, *, not_false_eq_true, and_self]; done | exact lf ‹_› (by simp only [*])) | simp -dsimp only [↓bp, bq, br, seval, tbFlatK, *] | refine cv_any ?_)
      -- all are looked at
      have hgr := hI.grown
      have hgb := hI.gbox
      have hgl := hI.glen
      have hmk := hI.mrk
      refine loop_keep mixed (fun n e => ∃ k, k ≤ rs.length ∧ n = rs.length - k ∧ e 9 = .int .i64 (k : Nat)) rs.length
        ⟨0, by omega, by omega, by simp -dsimp only [↓bp, bq, br, seval, tbFlatK]; first | done | rfl⟩ ?_
      rintro n e3 ⟨k, hk, rfl, h9⟩
      simp -dsimp only [↓bp, bq, br, seval, tbFlatK] at h9
      by_cases hlt : k < rs.length
      · have hc : ((k : Int) < rs.length) = True := eq_true (by omega)
        clear hI
        obtain ⟨c, r, hr, hgk, ⟨cs, hcs, hpre, hcl⟩, _, _⟩ := hgr k hlt
        have hrl := hn k r hr
        have hgd : gl.drop (k * 1) = .bs c (rlen r + 64) 3 43 :: gl.drop (k + 1) := by rw [Nat.mul_one]; exact drop_get _ _ _ hgk
        have hmr := hmk k
        have hki : 0 ≤ (k : Int) ∧ (k : Int) < rs.length := by omega
        clear hgr hgk hn hmk hgl
        repeat' (first | refine xs ?_ ?_ <;> intros | ((first | refine xh ?_ | refine xi ?_); intro bx hbx; (try simp only [fb] at hbx)) | refine xj ?_ | refine cv_plain ?_ | ((with_reducible refine And.intro ?_ ?_); omega) | refine bo_buildSlice (d' := ⟨⟩) ?_ | refine xk (by kernel_rfl) ?_ | refine xf ?_ (by repeat' first | exact lr _ | assumption | refine ls ?_ ?_ | refine lt ?_ ?_ | simp only [*]; done | simp only [fb, *, not_false_eq_true, and_self]; done | exact lf ‹_› (by simp only [*])) | refine finish_two ?_ (by repeat' first | exact lr _ | assumption | refine ls ?_ ?_ | refine lt ?_ ?_ | simp only [*]; done | simp only [fb, *, not_false_eq_true, and_self]; done | exact lf ‹_› (by simp only [*])) | simp -dsimp only [↓bp, bq, br, seval, tbFlatK, *] | refine cv_any ?_)
        refine loop_keep mixed (fun n e => ∃ i, i ≤ rlen r + 64 ∧ n = rlen r + 64 - i ∧ e 10 = .int .i64 (i : Nat)) (rlen r + 64)
          ⟨0, by omega, by omega, by simp -dsimp only [↓bp, bq, br, seval, tbFlatK]; first | done | rfl⟩ ?_
        rintro n e4 ⟨i, hi, rfl, h10⟩
        simp -dsimp only [↓bp, bq, br, seval, tbFlatK] at h10
        by_cases hil : i < rlen r + 64
        · have hci : ((i : Int) < ((rlen r + 64 : Nat) : Int)) = True := eq_true (by omega)
          have hwi : IntKind.i64.wrap ((i : Int) + 1) = ((i + 1 : Nat) : Int) := by rw [wrap_nat (by omega) (by omega)]; rfl
          obtain ⟨rest, hcd0⟩ := pre_drop mkK_len hpre hil
          have hcd : cs.drop (i * 3) = [.int .u8 0, .str [], .int .i64 (markI (k : Int) (i : Int))] ++ rest := hcd0
          clear hcd0
          by_cases hir : i < rlen r
          · have hcj : ((i : Int) < rlen r) = True := eq_true (by omega)
            rcases r with _ | ⟨b, n⟩
            · simp [rlen] at hir
            · obtain ⟨cs2, hcs2, hpre2, hcl2⟩ := hmr b n hr
              rw [if_pos hlt] at hpre2
              obtain ⟨rest2, hcd3⟩ := pre_drop mkK_len hpre2 hir
              have hcd2 : cs2.drop (i * 3) = [.int .u8 0, .str [], .int .i64 (markI (k : Int) (i : Int))] ++ rest2 := hcd3
              clear hcd3
              simp only [rlen] at *
              clear hmr hpre hpre2
              repeat' (first | refine xs ?_ ?_ <;> intros | ((first | refine xh ?_ | refine xi ?_); intro bx hbx; (try simp only [fb] at hbx)) | refine Pure.use (markK_pure G k i) ?_ | refine Pure.head (markK_pure G k i) ?_ | refine xj ?_ | refine cv_plain ?_ | ((with_reducible refine And.intro ?_ ?_); omega) | refine bo_buildSlice (d' := ⟨⟩) ?_ | refine xk (by kernel_rfl) ?_ | refine xf ?_ (by repeat' first | exact lr _ | assumption | refine ls ?_ ?_ | refine lt ?_ ?_ | simp only [*]; done | simp only [fb, *, not_false_eq_true, and_self]; done | exact lf ‹_› (by simp only [*])) | refine finish_two ?_ (by repeat' first | exact lr _ | assumption | refine ls ?_ ?_ | refine lt ?_ ?_ | simp only [*]; done | simp only [fb, *, not_false_eq_true, and_self]; done | exact lf ‹_› (by simp only [*])) | simp -dsimp only [↓bp, bq, br, seval, tbFlatK, rowA, rlen, eqMkK, *] | refine cv_any ?_)
              all_goals exact ⟨n + 64 - (i + 1), by omega, i + 1, by omega, rfl, rfl⟩
          · have hcj : ((i : Int) < rlen r) = False := eq_false (by omega)
            clear hmr hpre
            repeat' (first | refine xs ?_ ?_ <;> intros | ((first | refine xh ?_ | refine xi ?_); intro bx hbx; (try simp only [fb] at hbx)) | refine Pure.use (markK_pure G k i) ?_ | refine Pure.head (markK_pure G k i) ?_ | refine xj ?_ | refine cv_plain ?_ | ((with_reducible refine And.intro ?_ ?_); omega) | refine bo_buildSlice (d' := ⟨⟩) ?_ | refine xk (by kernel_rfl) ?_ | refine xf ?_ (by repeat' first | exact lr _ | assumption | refine ls ?_ ?_ | refine lt ?_ ?_ | simp only [*]; done | simp only [fb, *, not_false_eq_true, and_self]; done | exact lf ‹_› (by simp only [*])) | refine finish_two ?_ (by repeat' first | exact lr _ | assumption | refine ls ?_ ?_ | refine lt ?_ ?_ | simp only [*]; done | simp only [fb, *, not_false_eq_true, and_self]; done | exact lf ‹_› (by simp only [*])) | simp -dsimp only [↓bp, bq, br, seval, tbFlatK, eqMkK, *] | refine cv_any ?_)
            all_goals exact ⟨rlen r + 64 - (i + 1), by omega, i + 1, by omega, rfl, rfl⟩
        · have : i = rlen r + 64 := by omega
          subst this
          have hci : (((rlen r + 64 : Nat) : Int) < ((rlen r + 64 : Nat) : Int)) = False := eq_false (by omega)
          have hwk : IntKind.i64.wrap ((k : Int) + 1) = ((k + 1 : Nat) : Int) := by rw [wrap_nat (by omega) (by omega)]; rfl
          clear hmr hpre
          repeat' (first | refine xs ?_ ?_ <;> intros | ((first | refine xh ?_ | refine xi ?_); intro bx hbx; (try simp only [fb] at hbx)) | refine xj ?_ | refine cv_plain ?_ | ((with_reducible refine And.intro ?_ ?_); omega) | refine bo_buildSlice (d' := ⟨⟩) ?_ | refine xk (by kernel_rfl) ?_ | refine xf ?_ (by repeat' first | exact lr _ | assumption | refine ls ?_ ?_ | refine lt ?_ ?_ | simp only [*]; done | simp only [fb, *, not_false_eq_true, and_self]; done | exact lf ‹_› (by simp only [*])) | refine finish_two ?_ (by repeat' first | exact lr _ | assumption | refine ls ?_ ?_ | refine lt ?_ ?_ | simp only [*]; done | simp only [fb, *, not_false_eq_true, and_self]; done | exact lf ‹_› (by simp only [*])) | simp -dsimp only [↓bp, bq, br, seval, tbFlatK, *] | refine cv_any ?_)
          all_goals exact ⟨rs.length - (k + 1), by omega, k + 1, by omega, rfl, rfl⟩
      · have : k = rs.length := by omega
        subst this
        have hc : ((rs.length : Int) < rs.length) = False := eq_false (by omega)
        clear hk hlt hgr hgb hgl hmk
        repeat' (first | refine xs ?_ ?_ <;> intros | ((first | refine xh ?_ | refine xi ?_); intro bx hbx; (try simp only [fb] at hbx)) | refine xj ?_ | refine cv_plain ?_ | ((with_reducible refine And.intro ?_ ?_); omega) | refine bo_buildSlice (d' := ⟨⟩) ?_ | refine xk (by kernel_rfl) ?_ | refine xf ?_ (by repeat' first | exact lr _ | assumption | refine ls ?_ ?_ | refine lt ?_ ?_ | simp only [*]; done | simp only [fb, *, not_false_eq_true, and_self]; done | exact lf ‹_› (by simp only [*])) | refine finish_two ?_ (by repeat' first | exact lr _ | assumption | refine ls ?_ ?_ | refine lt ?_ ?_ | simp only [*]; done | simp only [fb, *, not_false_eq_true, and_self]; done | exact lf ‹_› (by simp only [*])) | simp -dsimp only [↓bp, bq, br, seval, tbFlatK, *] | refine cv_any ?_)
        -- each grows by many at once
        have hI5 := hI.again 0
        clear hI
        refine loop_intro (fun n e σ' => ∃ k, k ≤ rs.length ∧ n = rs.length - k ∧ e 11 = .int .i64 (k : Nat) ∧ ∃ gl, GInv mkK 3 43 rs 0 σ bg gl k σ') rs.length
          ⟨0, by omega, by omega, by simp -dsimp only [↓bp, bq, br, seval, tbFlatK]; first | done | rfl, _, hI5⟩ ?_
        clear hI5
        rintro n e4 σ4 ⟨k, hk, rfl, h11, gl, hI⟩
        simp -dsimp only [↓bp, bq, br, seval, tbFlatK] at h11
        by_cases hlt : k < rs.length
        · have hc : ((k : Int) < rs.length) = True := eq_true (by omega)
          obtain ⟨r, hr⟩ : ∃ r, rs[k]? = some r := ⟨_, List.getElem?_eq_getElem hlt⟩
          have hrl := hn k r hr
          clear hn
          repeat' (first | refine xs ?_ ?_ <;> intros | ((first | refine xh ?_ | refine xi ?_); intro bx hbx; (try simp only [fb] at hbx)) | refine xj ?_ | refine cv_plain ?_ | ((with_reducible refine And.intro ?_ ?_); omega) | refine bo_buildSlice (d' := ⟨⟩) ?_ | refine xk (by kernel_rfl) ?_ | refine xf ?_ (by repeat' first | exact lr _ | assumption | refine ls ?_ ?_ | refine lt ?_ ?_ | simp only [*]; done | simp only [fb, *, not_false_eq_true, and_self]; done | exact lf ‹_› (by simp only [*])) | refine finish_two ?_ (by repeat' first | exact lr _ | assumption | refine ls ?_ ?_ | refine lt ?_ ?_ | simp only [*]; done | simp only [fb, *, not_false_eq_true, and_self]; done | exact lf ‹_› (by simp only [*])) | simp -dsimp only [↓bp, bq, br, seval, tbFlatK, *] | refine cv_any ?_)
          refine make_row 64 fkN fkZ (by omega) (fun bm hbm => ?_)
          have hnin := hI.notIn hbm.1
          have h00 := hI.zero hbm.1
          have hbb : bm ≠ bg := fun e => by have := hI.gbox; rw [← e, hbm.1] at this; cases this
          have hap := hI.apart hbm.1
          have hI' := hI.new hbm.1 (List.replicate 64 [.int .u8 0, .str [], .int .i64 0]).flatten
          have hF : Full 3 (List.replicate 64 [.int .u8 0, .str [], .int .i64 0]).flatten 64 := Full.rep 64 (a := .agg [.int .u8 0, .str [], .int .i64 0]) rfl rfl rfl
          clear hI hbm
          repeat' (first | refine xs ?_ ?_ <;> intros | ((first | refine xh ?_ | refine xi ?_); intro bx hbx; (try simp only [fb] at hbx)) | refine xj ?_ | refine cv_plain ?_ | ((with_reducible refine And.intro ?_ ?_); omega) | refine bo_buildSlice (d' := ⟨⟩) ?_ | refine xk (by kernel_rfl) ?_ | refine xf ?_ (by repeat' first | exact lr _ | assumption | refine ls ?_ ?_ | refine lt ?_ ?_ | simp only [*]; done | simp only [fb, *, not_false_eq_true, and_self]; done | exact lf ‹_› (by simp only [*])) | refine finish_two ?_ (by repeat' first | exact lr _ | assumption | refine ls ?_ ?_ | refine lt ?_ ?_ | simp only [*]; done | simp only [fb, *, not_false_eq_true, and_self]; done | exact lf ‹_› (by simp only [*])) | simp -dsimp only [↓bp, bq, br, seval, tbFlatK, *] | refine cv_any ?_)
          refine loop_intro (fun n e σ' => ∃ i ds, i ≤ 64 ∧ n = 64 - i ∧ e 13 = .int .i64 (i : Nat) ∧ σ'.box bm = some ds ∧ Full 3 ds 64 ∧ GInv mkK 3 43 rs 0 σ bg gl k σ') 64
            ⟨0, _, by omega, by omega, by simp -dsimp only [↓bp, bq, br, seval, tbFlatK]; first | done | rfl, AS.set_get, hF, hI'⟩ ?_
          clear hI' hF
          rintro n e5 σ5 ⟨i, ds, hi, rfl, h13, hds, hF, hI⟩
          simp -dsimp only [↓bp, bq, br, seval, tbFlatK] at h13
          by_cases hil : i < 64
          · have hci : ((i : Int) < 64) = True := eq_true (by omega)
            have hwi : IntKind.i64.wrap ((i : Int) + 1) = ((i + 1 : Nat) : Int) := by rw [wrap_nat (by omega) (by omega)]; rfl
            have hdl := hF.len
            have hco : i * 3 + 3 ≤ ds.length := by omega
            have hii : 0 ≤ (i : Int) ∧ (i : Int) < (64 : Nat) := by omega
            repeat' (first | refine xs ?_ ?_ <;> intros | ((first | refine xh ?_ | refine xi ?_); intro bx hbx; (try simp only [fb] at hbx)) | refine Pure.use (markK_pure G _ i) ?_ | refine Pure.head (markK_pure G _ i) ?_ | refine xj ?_ | refine cv_plain ?_ | ((with_reducible refine And.intro ?_ ?_); omega) | refine bo_buildSlice (d' := ⟨⟩) ?_ | refine xk (by kernel_rfl) ?_ | refine xf ?_ (by repeat' first | exact lr _ | assumption | refine ls ?_ ?_ | refine lt ?_ ?_ | simp only [*]; done | simp only [fb, *, not_false_eq_true, and_self]; done | exact lf ‹_› (by simp only [*])) | refine finish_two ?_ (by repeat' first | exact lr _ | assumption | refine ls ?_ ?_ | refine lt ?_ ?_ | simp only [*]; done | simp only [fb, *, not_false_eq_true, and_self]; done | exact lf ‹_› (by simp only [*])) | simp -dsimp only [↓bp, bq, br, seval, tbFlatK, *] | refine cv_any ?_)
            all_goals exact ⟨64 - (i + 1), by omega, i + 1, _, by omega, rfl, rfl, rfl, hF.set (v := mkK _ i) hil rfl rfl, hI.scratch hnin h00 hbb hap _⟩
          · have : i = 64 := by omega
            subst this
            have hci : (((64 : Nat) : Int) < 64) = False := eq_false (by omega)
            have hwk : IntKind.i64.wrap ((k : Int) + 1) = ((k + 1 : Nat) : Int) := by rw [wrap_nat (by omega) (by omega)]; rfl
            have hdl := hF.len
            obtain ⟨ys, hy1, hy2, hy3⟩ := hF
            have hki : 0 ≤ (k : Int) ∧ (k : Int) < rs.length := by omega
            repeat' (first | refine xs ?_ ?_ <;> intros | ((first | refine xh ?_ | refine xi ?_); intro bx hbx; (try simp only [fb] at hbx)) | ((refine app_grow (ys := ys) (p' := rlen r) (m := rlen r) (q := 64) mkK_len hd fkN (.inr ⟨bm, 64, 3, 43, ds, rfl, by rw [tf23.2.2.2.1]; rfl, hds, hy1, by omega, by rw [hy2, List.take_of_length_le (by omega)], hy3⟩) (fun a ha => (hy3 a ha).1) hy1 (by omega) (by omega) hI (hI.start hd hr) (Nat.le_refl _) (by omega) (List.prefix_append _ _) (fun v' σ6 hI' hV' => ?_); obtain ⟨c, rfl⟩ := hV'.bs (by omega); have hgb := hI'.gbox; have hgl := hI'.glen; have hkg : k * 1 + 1 ≤ gl.length := (by omega); have hS := hI'.store hr hV' (Nat.le_refl _))) | refine xj ?_ | refine cv_plain ?_ | ((with_reducible refine And.intro ?_ ?_); omega) | refine bo_buildSlice (d' := ⟨⟩) ?_ | refine xk (by kernel_rfl) ?_ | refine xf ?_ (by repeat' first | exact lr _ | assumption | refine ls ?_ ?_ | refine lt ?_ ?_ | simp only [*]; done | simp only [fb, *, not_false_eq_true, and_self]; done | exact lf ‹_› (by simp only [*])) | refine finish_two ?_ (by repeat' first | exact lr _ | assumption | refine ls ?_ ?_ | refine lt ?_ ?_ | simp only [*]; done | simp only [fb, *, not_false_eq_true, and_self]; done | exact lf ‹_› (by simp only [*])) | simp -dsimp only [↓bp, bq, br, seval, tbFlatK, *] | refine cv_any ?_)
            all_goals exact ⟨rs.length - (k + 1), by omega, k + 1, by omega, rfl, rfl, _, by rw [Nat.mul_one]; exact hS⟩
        · have : k = rs.length := by omega
          subst this
          have hc : ((rs.length : Int) < rs.length) = False := eq_false (by omega)
          clear hk hlt
          repeat' (first | refine xs ?_ ?_ <;> intros | ((first | refine xh ?_ | refine xi ?_); intro bx hbx; (try simp only [fb] at hbx)) | refine xj ?_ | refine cv_plain ?_ | ((with_reducible refine And.intro ?_ ?_); omega) | refine bo_buildSlice (d' := ⟨⟩) ?_ | refine xk (by kernel_rfl) ?_ | refine xf ?_ (by repeat' first | exact lr _ | assumption | refine ls ?_ ?_ | refine lt ?_ ?_ | simp only [*]; done | simp only [fb, *, not_false_eq_true, and_self]; done | exact lf ‹_› (by simp only [*])) | refine finish_two ?_ (by repeat' first | exact lr _ | assumption | refine ls ?_ ?_ | refine lt ?_ ?_ | simp only [*]; done | simp only [fb, *, not_false_eq_true, and_self]; done | exact lf ‹_› (by simp only [*])) | simp -dsimp only [↓bp, bq, br, seval, tbFlatK, *] | refine cv_any ?_)
          -- all are looked at again
          have hgr := hI.grown
          have hgb := hI.gbox
          have hgl := hI.glen
          have hmk := hI.mrk
          refine loop_keep mixed (fun n e => ∃ k, k ≤ rs.length ∧ n = rs.length - k ∧ e 14 = .int .i64 (k : Nat)) rs.length
            ⟨0, by omega, by omega, by simp -dsimp only [↓bp, bq, br, seval, tbFlatK]; first | done | rfl⟩ ?_
          rintro n e5 ⟨k, hk, rfl, h14⟩
          simp -dsimp only [↓bp, bq, br, seval, tbFlatK] at h14
          by_cases hlt : k < rs.length
          · have hc : ((k : Int) < rs.length) = True := eq_true (by omega)
            clear hI
            obtain ⟨c, r, hr, hgk, ⟨cs, hcs, hpre, hcl⟩, _, _⟩ := hgr k hlt
            have hrl := hn k r hr
            have hgd : gl.drop (k * 1) = .bs c (rlen r + 64) 3 43 :: gl.drop (k + 1) := by rw [Nat.mul_one]; exact drop_get _ _ _ hgk
            have hmr := hmk k
            have hki : 0 ≤ (k : Int) ∧ (k : Int) < rs.length := by omega
            clear hgr hgk hn hmk hgl
            repeat' (first | refine xs ?_ ?_ <;> intros | ((first | refine xh ?_ | refine xi ?_); intro bx hbx; (try simp only [fb] at hbx)) | refine xj ?_ | refine cv_plain ?_ | ((with_reducible refine And.intro ?_ ?_); omega) | refine bo_buildSlice (d' := ⟨⟩) ?_ | refine xk (by kernel_rfl) ?_ | refine xf ?_ (by repeat' first | exact lr _ | assumption | refine ls ?_ ?_ | refine lt ?_ ?_ | simp only [*]; done | simp only [fb, *, not_false_eq_true, and_self]; done | exact lf ‹_› (by simp only [*])) | refine finish_two ?_ (by repeat' first | exact lr _ | assumption | refine ls ?_ ?_ | refine lt ?_ ?_ | simp only [*]; done | simp only [fb, *, not_false_eq_true, and_self]; done | exact lf ‹_› (by simp only [*])) | simp -dsimp only [↓bp, bq, br, seval, tbFlatK, *] | refine cv_any ?_)
            refine loop_keep mixed (fun n e => ∃ i, i ≤ rlen r ∧ n = rlen r - i ∧ e 15 = .int .i64 (i : Nat)) (rlen r)
              ⟨0, by omega, by omega, by simp -dsimp only [↓bp, bq, br, seval, tbFlatK]; first | done | rfl⟩ ?_
            rintro n e6 ⟨i, hi, rfl, h15⟩
            simp -dsimp only [↓bp, bq, br, seval, tbFlatK] at h15
            by_cases hil : i < rlen r
            · have hci : ((i : Int) < rlen r) = True := eq_true (by omega)
              have hwi : IntKind.i64.wrap ((i : Int) + 1) = ((i + 1 : Nat) : Int) := by rw [wrap_nat (by omega) (by omega)]; rfl
              obtain ⟨rest, hcd0⟩ := pre_drop mkK_len hpre hil
              have hcd : cs.drop (i * 3) = [.int .u8 0, .str [], .int .i64 (markI (k : Int) (i : Int))] ++ rest := hcd0
              clear hcd0
              rcases r with _ | ⟨b, n⟩
              · simp [rlen] at hil
              · obtain ⟨cs2, hcs2, hpre2, hcl2⟩ := hmr b n hr
                rw [if_pos hlt] at hpre2
                obtain ⟨rest2, hcd3⟩ := pre_drop mkK_len hpre2 hil
                have hcd2 : cs2.drop (i * 3) = [.int .u8 0, .str [], .int .i64 (markI (k : Int) (i : Int))] ++ rest2 := hcd3
                clear hcd3
                simp only [rlen] at *
                have hcn : 0 ≤ (i : Int) ∧ (i : Int) < ((n + 64 : Nat) : Int) := by omega
                have hcm : ((i : Int) < ((n + 64 : Nat) : Int)) = True := eq_true (by omega)
                clear hmr hpre hpre2
                repeat' (first | refine xs ?_ ?_ <;> intros | ((first | refine xh ?_ | refine xi ?_); intro bx hbx; (try simp only [fb] at hbx)) | refine Pure.use (markK_pure G k i) ?_ | refine Pure.head (markK_pure G k i) ?_ | refine xj ?_ | refine cv_plain ?_ | ((with_reducible refine And.intro ?_ ?_); omega) | refine bo_buildSlice (d' := ⟨⟩) ?_ | refine xk (by kernel_rfl) ?_ | refine xf ?_ (by repeat' first | exact lr _ | assumption | refine ls ?_ ?_ | refine lt ?_ ?_ | simp only [*]; done | simp only [fb, *, not_false_eq_true, and_self]; done | exact lf ‹_› (by simp only [*])) | refine finish_two ?_ (by repeat' first | exact lr _ | assumption | refine ls ?_ ?_ | refine lt ?_ ?_ | simp only [*]; done | simp only [fb, *, not_false_eq_true, and_self]; done | exact lf ‹_› (by simp only [*])) | simp -dsimp only [↓bp, bq, br, seval, tbFlatK, rowA, rlen, eqMkK, *] | refine cv_any ?_)
                all_goals exact ⟨n - (i + 1), by omega, i + 1, by omega, rfl, rfl⟩
            · have : i = rlen r := by omega
              subst this
              have hci : ((rlen r : Int) < rlen r) = False := eq_false (by omega)
              have hwk : IntKind.i64.wrap ((k : Int) + 1) = ((k + 1 : Nat) : Int) := by rw [wrap_nat (by omega) (by omega)]; rfl
              clear hmr hpre
              repeat' (first | refine xs ?_ ?_ <;> intros | ((first | refine xh ?_ | refine xi ?_); intro bx hbx; (try simp only [fb] at hbx)) | refine xj ?_ | refine cv_plain ?_ | ((with_reducible refine And.intro ?_ ?_); omega) | refine bo_buildSlice (d' := ⟨⟩) ?_ | refine xk (by kernel_rfl) ?_ | refine xf ?_ (by repeat' first | exact lr _ | assumption | refine ls ?_ ?_ | refine lt ?_ ?_ | simp only [*]; done | simp only [fb, *, not_false_eq_true, and_self]; done | exact lf ‹_› (by simp only [*])) | refine finish_two ?_ (by repeat' first | exact lr _ | assumption | refine ls ?_ ?_ | refine lt ?_ ?_ | simp only [*]; done | simp only [fb, *, not_false_eq_true, and_self]; done | exact lf ‹_› (by simp only [*])) | simp -dsimp only [↓bp, bq, br, seval, tbFlatK, *] | refine cv_any ?_)
              all_goals exact ⟨rs.length - (k + 1), by omega, k + 1, by omega, rfl, rfl⟩
          · have : k = rs.length := by omega
            subst this
            have hc : ((rs.length : Int) < rs.length) = False := eq_false (by omega)
            have hlx := hI.lex
            clear hk hlt hgr hgb hgl hmk hI
            repeat' (first | refine xs ?_ ?_ <;> intros | ((first | refine xh ?_ | refine xi ?_); intro bx hbx; (try simp only [fb] at hbx)) | refine xj ?_ | refine cv_plain ?_ | ((with_reducible refine And.intro ?_ ?_); omega) | refine bo_buildSlice (d' := ⟨⟩) ?_ | refine xk (by kernel_rfl) ?_ | refine xf ?_ (by repeat' first | exact lr _ | assumption | refine ls ?_ ?_ | refine lt ?_ ?_ | simp only [*]; done | simp only [fb, *, not_false_eq_true, and_self]; done | exact lf ‹_› (by simp only [*])) | refine finish_two ?_ (by repeat' first | exact lr _ | assumption | refine ls ?_ ?_ | refine lt ?_ ?_ | simp only [*]; done | simp only [fb, *, not_false_eq_true, and_self]; done | exact lf ‹_› (by simp only [*])) | simp -dsimp only [↓bp, bq, br, seval, tbFlatK, *] | refine cv_any ?_)
            all_goals exact finishW_some _ (AS.le.refl _) ⟨rfl, hlx⟩
end
end Go.Proofs.YtldmniappliepaaGreatDoor
