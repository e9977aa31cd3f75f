/- Whether rows of tokens lie apart, by the kit's bag: they do, where each has memory of its own. -/
import Derived.Test.YtldmniappliepaaGreatDoorY25
import Derived.Test.YtldmniappliepaaGreatDoorY21
import Derived.Test.YtldmniappliepaaGreatDoorY22
import Derived.Test.YtldmniappliepaaGreatDoorY14
import Derived.Shelf.Strings.Builder2Cap
import Derived.Shelf.Strings.Repeat
set_option linter.unusedVariables false
set_option linter.unusedSimpArgs false
set_option maxRecDepth 20000
set_option linter.defProp false
namespace Go.Proofs.YtldmniappliepaaGreatDoor
open Go Go.Av
def tbApK := And.intro (And.intro (And.intro (And.intro @tf3 (And.intro @tf4 @tf9)) (And.intro (And.intro @tf23 @tf35) (And.intro @tf72 @tf52))) (And.intro (And.intro @tf53 (And.intro @tf54 @tf55)) (And.intro (And.intro @tf56 @tf57) (And.intro @tf58 @tf59)))) (And.intro (And.intro (And.intro @tf31 (And.intro @tf60 @tf61)) (And.intro (And.intro @tf62 @tf63) (And.intro @tf64 @tf65))) (And.intro (And.intro @tf66 (And.intro @tf67 @tf68)) (And.intro (And.intro @tf69 @tf70) (And.intro @flat_rowA @isv_rowA))))
variable (G : Nat → AV)
structure BagK (σ0 σ : AS) (b : Nat) (xs : List Row) : Prop where
  fr : σ0.fresh b
  ex : ∃ v, σ.box b = some [.nil, .nil, .nil, .nil, .nil, .nil, .nil, .nil, v, .nil, .nil, .nil, .nil, .nil, .nil, .nil, .nil, .nil, .nil, .nil] ∧ Buf 1 σ0 σ v (xs.map (rowA 3 43))
theorem BagK.le {σ0 σ : AS} {b : Nat} {xs : List Row} (h : BagK σ0 σ b xs) : σ0.le σ := by
  obtain ⟨v, _, h2⟩ := h.ex; exact h2.le
theorem fkRE : el Tryz.prog 31 = some 23 := tf31.2.2.2.1
theorem one_cellK {r : Row} : (flat (rowA 3 43 r)).length = 1 := by rw [flat_rowA]; rfl
theorem putTokens_tri (xs : List Row) (r : Row) (σ0 σ : AS) (b : Nat) (hn : xs.length ≤ 1000000) (h : BagK σ0 σ b xs) :
    Tri Tryz.prog G 23 [.ptr b 0, rowA 3 43 r] σ fun x σ' => x = .tup [] ∧ BagK σ0 σ' b (xs ++ [r]) := by
  obtain ⟨hfr, v, hb, hB⟩ := h
  obtain ⟨o1, o2, o3⟩ := buf_row hB
  refine Tri.of_awp mixed Tryz.func23 rfl (by kernel_rfl) (by kernel_rfl) (by simp [Tryz.ntmps23]) Tryz.results23 ?_
  repeat' (first | refine xs ?_ ?_ <;> intros | ((first | refine xh ?_ | refine xi ?_); intro bx hbx; (try simp only [fb] at hbx)) | (refine build_one fkR (a := rowA 3 43 r) (isv_rowA _ _ _) one_cellK (by omega) ?_) | (refine app_buf (ys := [rowA 3 43 r]) hB fkR (asrc_sl fkRE) (fun a ha => by simp at ha; subst ha; exact one_cellK) (by simp; omega) (fun v3 σ3 hB4 hx4 => ?_)) | refine xj ?_ | refine cv_plain ?_ | ((with_reducible refine And.intro ?_ ?_); omega) | refine bo_buildSlice (d' := ⟨⟩) ?_ | refine xk (by kernel_rfl) ?_ | refine xf ?_ (by repeat' first | exact lr _ | assumption | refine ls ?_ ?_ | refine lt ?_ ?_ | simp only [*]; done | simp only [fb, *, not_false_eq_true, and_self]; done | exact lf ‹_› (by simp only [*])) | refine finish_two ?_ (by repeat' first | exact lr _ | assumption | refine ls ?_ ?_ | refine lt ?_ ?_ | simp only [*]; done | simp only [fb, *, not_false_eq_true, and_self]; done | exact lf ‹_› (by simp only [*])) | simp -dsimp only [↓bp, bq, br, seval, tbApK, *] | refine cv_any ?_)
  obtain ⟨p1, p2, p3⟩ := buf_row hB4
  refine ⟨⟨p3, by rw [p2]; rfl⟩, ?_⟩
  rw [p2]
  refine finishW_some _ (AS.le.refl _) ⟨rfl, hfr, v3, by simp [AS.setBox], ?_⟩
  rw [List.map_append]
  exact Buf.setQ hB4 hfr _
theorem mem_inK {rs : List Row} {b : Nat} {σ : AS} (h0 : ∀ (j b n : Nat), rs[j]? = some (some (b, n)) → ∃ cs, σ.box b = some cs ∧ n * 3 ≤ cs.length) (hb : σ.box b = none) : ¬ InS rs b := fun ⟨n, hn⟩ => by
  obtain ⟨j, hj⟩ := List.getElem?_of_mem hn
  obtain ⟨cs, h1, _⟩ := h0 j b n hj
  rw [hb] at h1; cases h1
set_option maxHeartbeats 2000000 in
theorem apartK_tri (rs : List Row) (hd : Distinct rs) (hN : rs.length ≤ 1000000) (hn : ∀ (k : Nat) (r : Row), rs[k]? = some r → rlen r ≤ 1000000000) (σ0 σ : AS) (b : Nat) (h0 : ∀ (j b n : Nat), rs[j]? = some (some (b, n)) → ∃ cs, σ0.box b = some cs ∧ n * 3 ≤ cs.length) (h : BagK σ0 σ b rs) :
    Tri Tryz.prog G 24 [.ptr b 0] σ fun r σ' => r = .bool true ∧ LeX (InS rs) σ0 σ' := by
  have hle := h.le
  obtain ⟨hfr, v, hb, hB⟩ := h
  have hnb := mem_inK h0 hfr.1
  have hF := flatTokens_tri G rs hd hN hn σ (fun j b n hj => by
    obtain ⟨cs, h1, h2⟩ := h0 j b n hj
    exact ⟨cs, hle.box _ _ h1, h2⟩)
  have hF : Tri Tryz.prog G 59 [v] σ _ := Tri.weaken (.cons hB.told .nil) hF
  have hx0 : LeX (InS rs) σ0 σ := ⟨fun b cs _ hc => hle.box b cs hc, hle.tip, hle.ty⟩
  clear h0 hB hle hd hN hn
  have f1 := flatLimbs_nil G
  have f2 := flatWords_nil G
  have f3 := flatInts_nil G
  have f4 := flatLongs_nil G
  have f6 := flatBytes_nil G
  have f7 := flatFaults_nil G
  have f8 := flatTerms_nil G
  have f5 := flatTexts_nil G
  have f10 := flatNodes_nil G
  have f11 := flatCores_nil G
  have f12 := flatFuncs_nil G
  have f13 := flatPrograms_nil G
  have f14 := flatInstrs_nil G
  have f15 := flatEntries_nil G
  have f16 := flatCodes_nil G
  have f17 := flatSteps_nil G
  have f18 := flatEndeds_nil G
  have f19 := flatNameds_nil G
  have f20 := flatSeens_nil G
  refine Tri.of_awp mixed Tryz.func24 rfl (by kernel_rfl) (by kernel_rfl) (by simp [Tryz.ntmps24]) Tryz.results24 ?_
  repeat' (first | refine xs ?_ ?_ <;> intros | ((first | refine xh ?_ | refine xi ?_); intro bx hbx; (try simp only [fb] at hbx)) | refine Pure.use (f1) ?_ | refine Pure.head (f1) ?_ | refine Pure.use (f2) ?_ | refine Pure.head (f2) ?_ | refine Pure.use (f3) ?_ | refine Pure.head (f3) ?_ | refine Pure.use (f4) ?_ | refine Pure.head (f4) ?_ | refine Pure.use (f5) ?_ | refine Pure.head (f5) ?_ | ((refine Tri.mono hF ?_; rintro r s2 ⟨rfl, hX⟩; have hb2 := hX.box _ _ hnb hb)) | refine Pure.use (f6) ?_ | refine Pure.head (f6) ?_ | refine Pure.use (f7) ?_ | refine Pure.head (f7) ?_ | refine Pure.use (f8) ?_ | refine Pure.head (f8) ?_ | refine Pure.use (f10) ?_ | refine Pure.head (f10) ?_ | refine Pure.use (f11) ?_ | refine Pure.head (f11) ?_ | refine Pure.use (f12) ?_ | refine Pure.head (f12) ?_ | refine Pure.use (f13) ?_ | refine Pure.head (f13) ?_ | refine Pure.use (f14) ?_ | refine Pure.head (f14) ?_ | refine Pure.use (f15) ?_ | refine Pure.head (f15) ?_ | refine Pure.use (f16) ?_ | refine Pure.head (f16) ?_ | refine Pure.use (f17) ?_ | refine Pure.head (f17) ?_ | refine Pure.use (f18) ?_ | refine Pure.head (f18) ?_ | refine Pure.use (f19) ?_ | refine Pure.head (f19) ?_ | refine Pure.use (f20) ?_ | refine Pure.head (f20) ?_ | refine xj ?_ | refine cv_plain ?_ | ((with_reducible refine And.intro ?_ ?_); omega) | refine bo_buildSlice (d' := ⟨⟩) ?_ | refine xk (by kernel_rfl) ?_ | refine xf ?_ (by repeat' first | exact lr _ | assumption | refine ls ?_ ?_ | refine lt ?_ ?_ | simp only [*]; done | simp only [fb, *, not_false_eq_true, and_self]; done | exact lf ‹_› (by simp only [*])) | refine finish_two ?_ (by repeat' first | exact lr _ | assumption | refine ls ?_ ?_ | refine lt ?_ ?_ | simp only [*]; done | simp only [fb, *, not_false_eq_true, and_self]; done | exact lf ‹_› (by simp only [*])) | simp -dsimp only [↓bp, bq, br, seval, tbApK, *] | refine cv_any ?_)
  exact finishW_some _ (AS.le.refl _) ⟨rfl, hx0.trans hX⟩
theorem apartTokens_tri (rs : List Row) (g : Gh) (hd : Distinct rs) (hN : rs.length ≤ 1000000) (hn : ∀ (k : Nat) (r : Row), rs[k]? = some r → rlen r ≤ 1000000000) (σ : AS) (h0 : ∀ (j b n : Nat), rs[j]? = some (some (b, n)) → ∃ cs, σ.box b = some cs ∧ n * 3 ≤ cs.length) :
    Tri Tryz.prog G 9 [.sl g (rs.map (rowA 3 43)) []] σ fun r σ' => r = .bool true ∧ LeX (InS rs) σ σ' := by
  refine Tri.weaken (.cons Le.gh .nil) ?_
  have hA := fun (σ' : AS) (b : Nat) (h : BagK σ σ' b rs) => apartK_tri G rs hd hN hn σ σ' b h0 h
  clear hd hn h0
  refine Tri.of_awp mixed Tryz.func9 rfl (by kernel_rfl) (by kernel_rfl) (by simp [Tryz.ntmps9]) Tryz.results9 ?_
  simp -dsimp only [↓bp, bq, br, seval, tbApK]
  refine newW_intro fun b hb => ?_
  have hB0 : BagK σ (σ.setBox b [.nil, .nil, .nil, .nil, .nil, .nil, .nil, .nil, .nil, .nil, .nil, .nil, .nil, .nil, .nil, .nil, .nil, .nil, .nil, .nil]) b [] := ⟨hb, .nil, by simp [AS.setBox], Buf.setQ (.nil (AS.le.refl σ)) hb _⟩
  generalize σ.setBox b [.nil, .nil, .nil, .nil, .nil, .nil, .nil, .nil, .nil, .nil, .nil, .nil, .nil, .nil, .nil, .nil, .nil, .nil, .nil, .nil] = S0 at *
  repeat' (first | refine xs ?_ ?_ <;> intros | ((first | refine xh ?_ | refine xi ?_); intro bx hbx; (try simp only [fb] at hbx)) | refine xj ?_ | refine cv_plain ?_ | ((with_reducible refine And.intro ?_ ?_); omega) | refine bo_buildSlice (d' := ⟨⟩) ?_ | refine xk (by kernel_rfl) ?_ | refine xf ?_ (by repeat' first | exact lr _ | assumption | refine ls ?_ ?_ | refine lt ?_ ?_ | simp only [*]; done | simp only [fb, *, not_false_eq_true, and_self]; done | exact lf ‹_› (by simp only [*])) | refine finish_two ?_ (by repeat' first | exact lr _ | assumption | refine ls ?_ ?_ | refine lt ?_ ?_ | simp only [*]; done | simp only [fb, *, not_false_eq_true, and_self]; done | exact lf ‹_› (by simp only [*])) | simp -dsimp only [↓bp, bq, br, seval, tbApK, *] | refine cv_any ?_)
  refine loop_intro (fun n e σ' => ∃ i : Nat, i ≤ rs.length ∧ n = rs.length - i ∧ e 4 = .int .i64 i ∧ BagK σ σ' b (rs.take i)) rs.length
    ⟨0, by omega, by omega, by first | (simp -dsimp only [↓bp, bq, br, seval, tbApK]; done) | (simp -dsimp only [↓bp, bq, br, seval, tbApK]; try rfl), by simpa using hB0⟩ ?_
  clear hB0
  rintro n e σ2 ⟨i, hi, rfl, h4, hB⟩
  simp -dsimp only [↓bp, bq, br, seval, tbApK] at h4
  by_cases hlt : (i : Int) < rs.length
  · obtain ⟨x, hx⟩ : ∃ x, rs[i]? = some x := ⟨_, List.getElem?_eq_getElem (by omega)⟩
    have hwi : IntKind.i64.wrap ((i : Int) + 1) = ((i + 1 : Nat) : Int) := by rw [wrap_nat (by omega) (by omega)]; rfl
    have hp := putTokens_tri G (rs.take i) x σ σ2 b (by rw [List.length_take]; omega) hB
    rw [← take_succ_get _ _ _ hx] at hp
    have hlt' := eq_true hlt
    clear hA hB
    repeat' (first | refine xs ?_ ?_ <;> intros | ((first | refine xh ?_ | refine xi ?_); intro bx hbx; (try simp only [fb] at hbx)) | ((refine Tri.mono hp ?_; rintro r s2 ⟨rfl, hB2⟩)) | refine xj ?_ | refine cv_plain ?_ | ((with_reducible refine And.intro ?_ ?_); omega) | refine bo_buildSlice (d' := ⟨⟩) ?_ | refine xk (by kernel_rfl) ?_ | refine xf ?_ (by repeat' first | exact lr _ | assumption | refine ls ?_ ?_ | refine lt ?_ ?_ | simp only [*]; done | simp only [fb, *, not_false_eq_true, and_self]; done | exact lf ‹_› (by simp only [*])) | refine finish_two ?_ (by repeat' first | exact lr _ | assumption | refine ls ?_ ?_ | refine lt ?_ ?_ | simp only [*]; done | simp only [fb, *, not_false_eq_true, and_self]; done | exact lf ‹_› (by simp only [*])) | simp -dsimp only [↓bp, bq, br, seval, tbApK, *] | refine cv_any ?_)
    all_goals exact ⟨rs.length - (i + 1), by omega, i + 1, by omega, rfl, rfl, hB2⟩
  · have : i = rs.length := by omega
    subst this
    rw [List.take_length] at hB
    have hlt' := eq_false hlt
    have hp := hA σ2 b hB
    clear hA hB
    repeat' (first | refine xs ?_ ?_ <;> intros | ((first | refine xh ?_ | refine xi ?_); intro bx hbx; (try simp only [fb] at hbx)) | ((refine Tri.mono hp ?_; rintro r s2 ⟨rfl, hX⟩)) | refine xj ?_ | refine cv_plain ?_ | ((with_reducible refine And.intro ?_ ?_); omega) | refine bo_buildSlice (d' := ⟨⟩) ?_ | refine xk (by kernel_rfl) ?_ | refine xf ?_ (by repeat' first | exact lr _ | assumption | refine ls ?_ ?_ | refine lt ?_ ?_ | simp only [*]; done | simp only [fb, *, not_false_eq_true, and_self]; done | exact lf ‹_› (by simp only [*])) | refine finish_two ?_ (by repeat' first | exact lr _ | assumption | refine ls ?_ ?_ | refine lt ?_ ?_ | simp only [*]; done | simp only [fb, *, not_false_eq_true, and_self]; done | exact lf ‹_› (by simp only [*])) | simp -dsimp only [↓bp, bq, br, seval, tbApK, *] | refine cv_any ?_)
    all_goals exact finishW_some _ (AS.le.refl _) ⟨rfl, hX⟩
end Go.Proofs.YtldmniappliepaaGreatDoor
set_option maxRecDepth 20000
namespace Go.Proofs.YtldmniappliepaaGreatDoor
open Go Go.Av
def tbLawScanTells := And.intro (And.intro (And.intro (And.intro @tf3 @tf4) (And.intro @tf5 @tf9)) (And.intro (And.intro @tf33 @tf35) (And.intro @tf43 @tf41))) (And.intro (And.intro (And.intro @tf24 @tf26) (And.intro @tf23 @tf31)) (And.intro (And.intro @isv_rowOf @flat_rowOf) (And.intro @len_rowOf @ix_rowOf)))
variable {G : Nat → AV}
theorem rtokens_ok {s : List UInt8} (hs : s.length ≤ 1000000000) {l : List Tok} (h : scanT s = .ok l) : Pure Tryz.prog G 7 [.str s] (.tup [rowOf Tok.enc l, .agg [.int .i64 0, .int .i64 0]]) := by
  refine Pure.of_le fun σ => ?_
  have h1 := rtokens_tri G s hs σ
  rw [h] at h1
  refine Tri.tupBs (n := l.length) (s := 3) (E := 43) (xs := l.map Tok.enc) tok_ok (by rw [List.length_map]) (h1.mono ?_)
  rintro r σ' ⟨b, g1, g2, g3, g4, g5⟩
  exact ⟨b, g1, g2, g3, g4, g5⟩
theorem rtokens_bad {s : List UInt8} (hs : s.length ≤ 1000000000) {e p : Nat} (h : scanT s = .bad e p) : Pure Tryz.prog G 7 [.str s] (.tup [.nil, .agg [.int .i64 e, .int .i64 p]]) := by
  intro σ
  have h1 := rtokens_tri G s hs σ
  rw [h] at h1
  exact Tri.back (h1.mono fun r σ' ⟨g1, g2⟩ => ⟨g1, g2⟩)
theorem two_rows {r1 r2 n m : Nat} (h : r1 ≠ r2) : Distinct [some (r1, n), some (r2, m)] := by
  intro i j b n' m' hi hj
  match i, j, hi, hj with
  | 0, 0, hi, hj => rfl
  | 0, 1, hi, hj => simp at hi hj; exact absurd (hi.1.trans hj.1.symm) h
  | 1, 0, hi, hj => simp at hi hj; exact absurd (hj.1.trans hi.1.symm) h
  | 1, 1, hi, hj => rfl
  | 0, j + 2, hi, hj => simp at hj
  | 1, j + 2, hi, hj => simp at hj
  | i + 2, j, hi, hj => simp at hi
theorem two_len {r1 r2 n : Nat} (hl : n ≤ 1000000000) : ∀ (k : Nat) (r : Row), [some (r1, n), some (r2, n)][k]? = some r → rlen r ≤ 1000000000 := fun k r hr => by
  match k, hr with
  | 0, hr => simp at hr; subst hr; exact hl
  | 1, hr => simp at hr; subst hr; exact hl
  | k + 2, hr => simp at hr
theorem two_box {σ : AS} {r1 r2 n s : Nat} {c1 c2 : List AV} (h1 : σ.box r1 = some c1) (h2 : σ.box r2 = some c2) (g1 : n * s ≤ c1.length) (g2 : n * s ≤ c2.length) : ∀ (j b m : Nat), [some (r1, n), some (r2, n)][j]? = some (some (b, m)) → ∃ cs, σ.box b = some cs ∧ m * s ≤ cs.length := fun j b m hj => by
  match j, hj with
  | 0, hj => simp at hj; obtain ⟨rfl, rfl⟩ := hj; exact ⟨_, h1, g1⟩
  | 1, hj => simp at hj; obtain ⟨rfl, rfl⟩ := hj; exact ⟨_, h2, g2⟩
  | j + 2, hj => simp at hj
theorem le_two {σ s t : AS} {r1 r2 n : Nat} (h : σ.le s) (z1 : σ.box r1 = none) (z2 : σ.box r2 = none) (hX : LeX (InS [some (r1, n), some (r2, n)]) s t) : σ.le t := ⟨fun b cs hb => hX.box b cs (fun ⟨m, hm⟩ => by
    simp only [List.mem_cons, Option.some.injEq, Prod.mk.injEq, List.not_mem_nil, or_false] at hm
    rcases hm with ⟨rfl, _⟩ | ⟨rfl, _⟩
    · rw [z1] at hb; cases hb
    · rw [z2] at hb; cases hb) (h.box b cs hb), fun b x hb => hX.tip b x (h.tip b x hb), fun b x hb => hX.ty b x (h.ty b x hb)⟩
theorem apart_two {σ : AS} {r1 r2 n : Nat} (hne : r1 ≠ r2) {c1 c2 : List AV} (h1 : σ.box r1 = some c1) (h2 : σ.box r2 = some c2) (g1 : n * 3 ≤ c1.length) (g2 : n * 3 ≤ c2.length) (hl : n ≤ 1000000000) : Tri Tryz.prog G 9 [.sl .full [.bs r1 n 3 43, .bs r2 n 3 43] []] σ fun r σ' => r = .bool true ∧ LeX (InS [some (r1, n), some (r2, n)]) σ σ' :=
  apartTokens_tri G [some (r1, n), some (r2, n)] .full (two_rows hne) (by simp) (two_len hl) σ (two_box h1 h2 g1 g2)
theorem apart_nil (σ : AS) : Tri Tryz.prog G 9 [.sl .full [.nil, .nil] []] σ fun r σ' => r = .bool true ∧ σ.le σ' :=
  (apartTokens_tri G [none, none] .full (fun i j b n m hi hj => by
    match i, hi with
    | 0, hi => simp at hi
    | 1, hi => simp at hi
    | i + 2, hi => simp at hi) (by simp) (fun k r hr => by
    match k, hr with
    | 0, hr => simp at hr; subst hr; exact Nat.zero_le _
    | 1, hr => simp at hr; subst hr; exact Nat.zero_le _
    | k + 2, hr => simp at hr) σ (fun j b n hj => by
    match j, hj with
    | 0, hj => simp at hj
    | 1, hj => simp at hj
    | j + 2, hj => simp at hj)).mono fun r s ⟨h1, h2⟩ => ⟨h1, fun b cs hb => h2.box b cs (fun ⟨n, hn⟩ => by simp at hn) hb, h2.tip, h2.ty⟩
theorem apart_words {σ : AS} {r1 r2 : Nat} (hne : r1 ≠ r2) {c1 c2 : List AV} (h1 : σ.box r1 = some c1) (h2 : σ.box r2 = some c2) (g1 : c1.length = 19) (g2 : c2.length = 19) : Tri Tryz.prog G 10 [.sl .full [.bs r1 19 1 9, .bs r2 19 1 9] []] σ fun r σ' => r = .bool true ∧ LeX (InS [some (r1, 19), some (r2, 19)]) σ σ' :=
  apartTexts_tri G [some (r1, 19), some (r2, 19)] .full (two_rows hne) (by simp) (two_len (by omega)) σ (two_box h1 h2 (by omega) (by omega))
theorem tells_long (s : List UInt8) (hs : 70000 < s.length) (w : Pure Tryz.prog G 5 [] (.bool true)) : Pure Tryz.prog G 3 [.str s] (.bool true) := by
  have h1 : ((70000 : Int) < s.length) = True := eq_true (by omega)
  clear hs
  intro σ
  refine Tri.of_awp mixed Tryz.func3 rfl (by kernel_rfl) (by kernel_rfl) (by simp [Tryz.ntmps3]) Tryz.results3 ?_
  repeat' (first | refine xs ?_ ?_ <;> intros | ((first | refine xh ?_ | refine xi ?_); intro bx hbx; (try simp only [fb] at hbx)) | refine Pure.use (w) ?_ | refine Pure.head (w) ?_ | refine xj ?_ | refine cv_plain ?_ | ((with_reducible refine And.intro ?_ ?_); omega) | refine bo_buildSlice (d' := ⟨⟩) ?_ | refine xk (by kernel_rfl) ?_ | refine xf ?_ (by repeat' first | exact lr _ | assumption | refine ls ?_ ?_ | refine lt ?_ ?_ | simp only [*]; done | simp only [fb, *, not_false_eq_true, and_self]; done | exact lf ‹_› (by simp only [*])) | refine finish_two ?_ (by repeat' first | exact lr _ | assumption | refine ls ?_ ?_ | refine lt ?_ ?_ | simp only [*]; done | simp only [fb, *, not_false_eq_true, and_self]; done | exact lf ‹_› (by simp only [*])) | simp -dsimp only [↓bp, bq, br, seval, tbLawScanTells, *] | refine cv_any ?_)
  all_goals rfl
set_option maxHeartbeats 4000000 in
theorem tells_ok (hg : GlobS G) (w : Pure Tryz.prog G 5 [] (.bool true)) (s : List UInt8) (hs : s.length ≤ 70000) (l : List Tok) (h : scanT s = .ok l) : Pure Tryz.prog G 3 [.str s] (.bool true) := by
  have h1 : ((70000 : Int) < s.length) = False := eq_false (by omega)
  have t1 := fun σ => tokens_made hg (s := s) (by omega) h σ
  have t2 := fun σ => tokens_made hg (s := s) (by omega) h σ
  have t3 := rtokens_ok (G := G) (s := s) (by omega) h
  have hll : l.length ≤ 70001 := by
    obtain ⟨_, l0, rfl, hl0⟩ := scanT_ok h
    have := lexAt_len _ s (Nat.le_refl _) 0 l0 hl0
    rw [List.length_append, List.length_singleton]; omega
  have hsame := sameToks_pure G l l (by omega) (by omega)
  rw [decide_eq_true rfl] at hsame
  have hW1 := fun σ => wordsM_tri hg σ
  have hW2 := fun σ => wordsM_tri hg σ
  have hLW : (scanWords.map AV.str).length = 19 := rfl
  generalize scanWords.map AV.str = LW at *
  have he := eqFlt 0 0 0 0 .eql
  simp only [decide_true, Bool.and_true, aeq] at he
  clear h hs hg
  intro σ
  refine Tri.back (Q := fun r => r = .bool true) ?_
  refine Tri.of_awp mixed Tryz.func3 rfl (by kernel_rfl) (by kernel_rfl) (by simp [Tryz.ntmps3]) Tryz.results3 ?_
  repeat' (first | refine xs ?_ ?_ <;> intros | ((first | refine xh ?_ | refine xi ?_); intro bx hbx; (try simp only [fb] at hbx)) | refine Pure.use (w) ?_ | refine Pure.head (w) ?_ | ((refine Tri.mono (t1 _) ?_; clear t1; rintro r s1 ⟨r1, rfl, le1, n1, nt1, x1⟩)) | refine xj ?_ | refine cv_plain ?_ | ((with_reducible refine And.intro ?_ ?_); omega) | refine bo_buildSlice (d' := ⟨⟩) ?_ | refine xk (by kernel_rfl) ?_ | refine xf ?_ (by repeat' first | exact lr _ | assumption | refine ls ?_ ?_ | refine lt ?_ ?_ | simp only [*]; done | simp only [fb, *, not_false_eq_true, and_self]; done | exact lf ‹_› (by simp only [*])) | refine finish_two ?_ (by repeat' first | exact lr _ | assumption | refine ls ?_ ?_ | refine lt ?_ ?_ | simp only [*]; done | simp only [fb, *, not_false_eq_true, and_self]; done | exact lf ‹_› (by simp only [*])) | simp -dsimp only [↓bp, bq, br, seval, tbLawScanTells, *] | refine cv_any ?_)
  revert hbx; revert bx; intro b6 h6
  refine Tri.mono (t2 _) ?_
  rintro r s2 ⟨r2, rfl, le2, n2, nt2, x2⟩
  have ne1 := fresh_ne x1 h6
  have hx1 : s2.box r1 = some (cellsT l) := le2.box _ _ (by simp only [AS.setBox, if_neg ne1.1]; exact x1)
  have hb6 : s2.box b6 = some [.int .i64 0, .int .i64 0] := le2.box _ _ (by simp [AS.setBox])
  have ne12 : ¬ r1 = r2 := fun e => by
    have : (s1.setBox b6 [.int .i64 0, .int .i64 0]).box r1 = some (cellsT l) := by simp only [AS.setBox, if_neg ne1.1]; exact x1
    rw [e, n2] at this; cases this
  have le1' : σ.le (s1.setBox b6 [.int .i64 0, .int .i64 0]) := le1.setBox (le1.fresh h6).1 _
  have n2' := le1'.noBox n2
  have hle := le1'.trans le2
  clear t2 le1 le2 n2 nt2 nt1 x1 h6 le1' s1
  repeat' (first | refine xs ?_ ?_ <;> intros | ((first | refine xh ?_ | refine xi ?_); intro bx hbx; (try simp only [fb] at hbx); try (have nn := fresh_ne (c := bx) hx1 (by simp only [hbx])); try (have nn := fresh_ne (c := bx) x2 (by simp only [hbx])); try (have nn := fresh_ne (c := bx) hb6 (by simp only [hbx]))) | refine Pure.use (t3) ?_ | refine Pure.head (t3) ?_ | refine xj ?_ | refine cv_plain ?_ | ((with_reducible refine And.intro ?_ ?_); omega) | refine bo_buildSlice (d' := ⟨⟩) ?_ | refine xk (by kernel_rfl) ?_ | refine xf ?_ (by repeat' first | exact lr _ | assumption | refine ls ?_ ?_ | refine lt ?_ ?_ | simp only [*]; done | simp only [fb, *, not_false_eq_true, and_self]; done | exact lf ‹_› (by simp only [*])) | refine finish_two ?_ (by repeat' first | exact lr _ | assumption | refine ls ?_ ?_ | refine lt ?_ ?_ | simp only [*]; done | simp only [fb, *, not_false_eq_true, and_self]; done | exact lf ‹_› (by simp only [*])) | simp -dsimp only [↓bp, bq, br, seval, tbLawScanTells, *] | refine cv_any ?_)
  rename_i b8 h8 q1 q2 q3 q4 q5
  obtain ⟨S, hS⟩ : ∃ S, S = (s2.setBox b8 [.int .i64 0, .int .i64 0]).setBox bx [.int .i64 0, .int .i64 0] := ⟨_, rfl⟩
  have gx : S.box r1 = some (cellsT l) := by rw [hS]; simp only [AS.setBox, if_neg q1.1, if_neg q4.1]; exact hx1
  have gy : S.box r2 = some (cellsT l) := by rw [hS]; simp only [AS.setBox, if_neg q2.1, if_neg q5.1]; exact x2
  have hleS : σ.le S := by rw [hS]; exact (hle.setBox (hle.fresh h8).1 _).setBox (hle.fresh hbx.1).1 _
  rw [← hS]
  clear hS hx1 x2 hb6 q1 q3 q4 nn h8 hle t3 q2 q5 hbx
  have hs1 := hsame.lend (σ := S) rfl (.cons (rowT_lend gx) (.cons (Lend.id _) .nil))
  have hs2 := hsame.lend (σ := S) rfl (.cons (rowT_lend gy) (.cons (Lend.id _) .nil))
  have hA := apart_two (G := G) (n := l.length) ne12 gx gy (by rw [cellsT_len]; omega) (by rw [cellsT_len]; omega) (by omega)
  refine Tri.mono hs1 ?_
  rintro r s3 ⟨rfl, rfl⟩
  repeat' (first | refine xs ?_ ?_ <;> intros | ((first | refine xh ?_ | refine xi ?_); intro bx hbx; (try simp only [fb] at hbx)) | ((refine Tri.mono hs2 ?_; rintro r s3 ⟨rfl, rfl⟩)) | ((refine Tri.mono hA ?_; rintro r s3 ⟨rfl, hX⟩; have hle3 := le_two hleS n1 n2' hX; clear hA hs1 hs2 hX gx gy hleS)) | ((refine Tri.mono (hW1 _) ?_; clear hW1; rintro r s4 ⟨w1, rfl, y1, le4, m1, mt1⟩; have z1 := hle3.noBox m1; have hle4 := hle3.trans le4; clear le4 m1 mt1 hle3)) | ((refine Tri.mono (hW2 _) ?_; clear hW2; rintro r s5 ⟨w2, rfl, y2, le5, m2, mt2⟩; have z2 := hle4.noBox m2; have hle5 := hle4.trans le5; have y1' := le5.box _ _ y1; have hne : w1 ≠ w2 := (fun e => absurd y1 (by rw [e, m2]; simp)); have hT := apart_words (G := G) hne y1' y2 hLW hLW; clear y1 le5 m2 mt2 hle4)) | ((refine Tri.mono hT ?_; rintro r s6 ⟨rfl, hX⟩; have hle6 := le_two hle5 z1 z2 hX)) | refine Pure.use (w) ?_ | refine Pure.head (w) ?_ | refine xj ?_ | refine cv_plain ?_ | ((with_reducible refine And.intro ?_ ?_); omega) | refine bo_buildSlice (d' := ⟨⟩) ?_ | refine xk (by kernel_rfl) ?_ | refine xf ?_ (by repeat' first | exact lr _ | assumption | refine ls ?_ ?_ | refine lt ?_ ?_ | simp only [*]; done | simp only [fb, *, not_false_eq_true, and_self]; done | exact lf ‹_› (by simp only [*])) | refine finish_two ?_ (by repeat' first | exact lr _ | assumption | refine ls ?_ ?_ | refine lt ?_ ?_ | simp only [*]; done | simp only [fb, *, not_false_eq_true, and_self]; done | exact lf ‹_› (by simp only [*])) | simp -dsimp only [↓bp, bq, br, seval, tbLawScanTells, *] | refine cv_any ?_)
  all_goals exact finishW_some _ (AS.le.refl _) ⟨rfl, hle6⟩
theorem sameNil : Pure Tryz.prog G 8 [.nil, .nil] (.bool true) := by
  have h := sameToks_pure G [] [] (by simp) (by simp)
  rw [decide_eq_true rfl] at h
  exact h.lessArgs (.cons Le.nil (.cons Le.nil .nil))
set_option maxHeartbeats 4000000 in
theorem tells_bad (hg : GlobS G) (w : Pure Tryz.prog G 5 [] (.bool true)) (s : List UInt8) (hs : s.length ≤ 70000) (e p : Nat) (h : scanT s = .bad e p) : Pure Tryz.prog G 3 [.str s] (.bool true) := by
  have h1 : ((70000 : Int) < s.length) = False := eq_false (by omega)
  have t1 := tokens_bad hg (s := s) (by omega) h
  have t3 := rtokens_bad (G := G) (s := s) (by omega) h
  have hsame := sameNil (G := G)
  have hW1 := fun σ => wordsM_tri hg σ
  have hW2 := fun σ => wordsM_tri hg σ
  have hLW : (scanWords.map AV.str).length = 19 := rfl
  generalize scanWords.map AV.str = LW at *
  have he := eqFlt e p e p .eql
  simp only [decide_true, Bool.and_true, aeq] at he
  clear h hs hg
  intro σ
  refine Tri.back (Q := fun r => r = .bool true) ?_
  refine Tri.of_awp mixed Tryz.func3 rfl (by kernel_rfl) (by kernel_rfl) (by simp [Tryz.ntmps3]) Tryz.results3 ?_
  repeat' (first | refine xs ?_ ?_ <;> intros | ((first | refine xh ?_ | refine xi ?_); intro bx hbx; (try simp only [fb] at hbx)) | refine Pure.use (w) ?_ | refine Pure.head (w) ?_ | refine Pure.use (t1) ?_ | refine Pure.head (t1) ?_ | refine Pure.use (t3) ?_ | refine Pure.head (t3) ?_ | refine Pure.use (hsame) ?_ | refine Pure.head (hsame) ?_ | ((refine Tri.mono (apart_nil _) ?_; rintro r s3 ⟨rfl, hle3⟩; rename_i k1 g1 k2 g2; replace hle3 := ((((AS.le.refl σ).setBox g1.1 _).setBox g2.1.1 _).setBox hbx.1.1.1 _).trans hle3; clear g1 g2 hbx)) | ((refine Tri.mono (hW1 _) ?_; clear hW1; rintro r s4 ⟨w1, rfl, y1, le4, m1, mt1⟩; have z1 := hle3.noBox m1; have hle4 := hle3.trans le4; clear le4 m1 mt1 hle3)) | ((refine Tri.mono (hW2 _) ?_; clear hW2; rintro r s5 ⟨w2, rfl, y2, le5, m2, mt2⟩; have z2 := hle4.noBox m2; have hle5 := hle4.trans le5; have y1' := le5.box _ _ y1; have hne : w1 ≠ w2 := (fun e => absurd y1 (by rw [e, m2]; simp)); have hT := apart_words (G := G) hne y1' y2 hLW hLW; clear y1 le5 m2 mt2 hle4)) | ((refine Tri.mono hT ?_; rintro r s6 ⟨rfl, hX⟩; have hle6 := le_two hle5 z1 z2 hX)) | refine xj ?_ | refine cv_plain ?_ | ((with_reducible refine And.intro ?_ ?_); omega) | refine bo_buildSlice (d' := ⟨⟩) ?_ | refine xk (by kernel_rfl) ?_ | refine xf ?_ (by repeat' first | exact lr _ | assumption | refine ls ?_ ?_ | refine lt ?_ ?_ | simp only [*]; done | simp only [fb, *, not_false_eq_true, and_self]; done | exact lf ‹_› (by simp only [*])) | refine finish_two ?_ (by repeat' first | exact lr _ | assumption | refine ls ?_ ?_ | refine lt ?_ ?_ | simp only [*]; done | simp only [fb, *, not_false_eq_true, and_self]; done | exact lf ‹_› (by simp only [*])) | simp -dsimp only [↓bp, bq, br, seval, tbLawScanTells, *] | refine cv_any ?_)
  all_goals exact finishW_some _ (AS.le.refl _) ⟨rfl, hle6⟩
theorem scanTells_pure (hg : GlobS G) (s : List UInt8) : Pure Tryz.prog G 3 [.str s] (.bool true) := by
  have w := sawake_pure hg
  by_cases hs : s.length ≤ 70000
  · cases h : scanT s with
    | ok l => exact tells_ok hg w s hs l h
    | bad e p => exact tells_bad hg w s hs e p h
  · exact tells_long s (by omega) w
end Go.Proofs.YtldmniappliepaaGreatDoor
namespace Go.Proofs
open Go.Shelf
def Tryz.lays105_ren : Go.Shelf.Ren := ⟨fun | 105 => 17 | 212 => 29 | 99 => 30 | 165 => 31 | 166 => 32 | 170 => 33 | 169 => 34 | 263 => 72 | 264 => 73 | 206 => 74 | 240 => 75 | 241 => 76 | 276 => 112 | 277 => 113 | n => n, fun | 9 => 9 | 3 => 3 | 4 => 4 | 20 => 20 | 0 => 0 | 46 => 80 | 109 => 81 | 5 => 5 | 72 => 86 | 76 => 90 | 51 => 124 | 146 => 127 | 53 => 129 | 148 => 130 | 70 => 84 | 37 => 37 | 75 => 89 | 127 => 132 | 164 => 223 | 80 => 93 | n => n, fun | n => n⟩
theorem Tryz.lays105 : Go.Proofs.Lays.n105 Tryz.prog Tryz.lays105_ren := {
  mixed := by kernel_rfl
  f99 := Tryz.func30.trans (congrArg some (by kernel_rfl))
  f105 := Tryz.func17.trans (congrArg some (by kernel_rfl))
  f165 := Tryz.func31.trans (congrArg some (by kernel_rfl))
  f166 := Tryz.func32.trans (congrArg some (by kernel_rfl))
  f169 := Tryz.func34.trans (congrArg some (by kernel_rfl))
  f170 := Tryz.func33.trans (congrArg some (by kernel_rfl))
  f206 := Tryz.func74.trans (congrArg some (by kernel_rfl))
  f212 := Tryz.func29.trans (congrArg some (by kernel_rfl))
  f240 := Tryz.func75.trans (congrArg some (by kernel_rfl))
  f241 := Tryz.func76.trans (congrArg some (by kernel_rfl))
  f263 := Tryz.func72.trans (congrArg some (by kernel_rfl))
  f264 := Tryz.func73.trans (congrArg some (by kernel_rfl))
  f276 := Tryz.func112.trans (congrArg some (by kernel_rfl))
  f277 := Tryz.func113.trans (congrArg some (by kernel_rfl))
  t0 := Tryz.underlying0
  a0 := Tryz.isAgg0
  z0 := Tryz.sizeOf0
  v0 := Tryz.zeroValue0
  t3 := Tryz.underlying3
  a3 := Tryz.isAgg3
  z3 := Tryz.sizeOf3
  v3 := Tryz.zeroValue3
  t4 := Tryz.underlying4
  a4 := Tryz.isAgg4
  z4 := Tryz.sizeOf4
  v4 := Tryz.zeroValue4
  t5 := Tryz.underlying5
  a5 := Tryz.isAgg5
  z5 := Tryz.sizeOf5
  v5 := Tryz.zeroValue5
  t9 := Tryz.underlying9
  a9 := Tryz.isAgg9
  z9 := Tryz.sizeOf9
  v9 := Tryz.zeroValue9
  t20 := Tryz.underlying20
  a20 := Tryz.isAgg20
  z20 := Tryz.sizeOf20
  v20 := Tryz.zeroValue20
  t37 := Tryz.underlying37
  a37 := Tryz.isAgg37
  z37 := Tryz.sizeOf37
  v37 := Tryz.zeroValue37
  t46 := Tryz.underlying80
  a46 := Tryz.isAgg80
  z46 := Tryz.sizeOf80
  v46 := Tryz.zeroValue80
  t51 := Tryz.underlying124
  a51 := Tryz.isAgg124
  z51 := Tryz.sizeOf124
  v51 := Tryz.zeroValue124
  t53 := Tryz.underlying129
  a53 := Tryz.isAgg129
  z53 := Tryz.sizeOf129
  v53 := Tryz.zeroValue129
  t70 := Tryz.underlying84
  a70 := Tryz.isAgg84
  z70 := Tryz.sizeOf84
  v70 := Tryz.zeroValue84
  t72 := Tryz.underlying86
  a72 := Tryz.isAgg86
  z72 := Tryz.sizeOf86
  v72 := Tryz.zeroValue86
  t75 := Tryz.underlying89
  a75 := Tryz.isAgg89
  z75 := Tryz.sizeOf89
  v75 := Tryz.zeroValue89
  t76 := Tryz.underlying90
  a76 := Tryz.isAgg90
  z76 := Tryz.sizeOf90
  v76 := Tryz.zeroValue90
  t109 := Tryz.underlying81
  a109 := Tryz.isAgg81
  z109 := Tryz.sizeOf81
  v109 := Tryz.zeroValue81
  t127 := Tryz.underlying132
  a127 := Tryz.isAgg132
  z127 := Tryz.sizeOf132
  v127 := Tryz.zeroValue132
  t146 := Tryz.underlying127
  a146 := Tryz.isAgg127
  z146 := Tryz.sizeOf127
  v146 := Tryz.zeroValue127
  t148 := Tryz.underlying130
  a148 := Tryz.isAgg130
  z148 := Tryz.sizeOf130
  v148 := Tryz.zeroValue130
  t164 := Tryz.underlying223
  a164 := Tryz.isAgg223
  z164 := Tryz.sizeOf223
  v164 := Tryz.zeroValue223 }
theorem Tryz.Builder_Extra_105 : Builder.Extra Tryz.prog Tryz.lays105_ren := {
  sizeBuilder := by kernel_rfl
  liesBuilder := by kernel_rfl
  t5 := Tryz.underlying5
  a5 := Tryz.isAgg5
  z5 := Tryz.sizeOf5
  v5 := Tryz.zeroValue5
  infoByte := by kernel_rfl
  cellsByte := by kernel_rfl
  sizeByte := by kernel_rfl
  neB5 := by decide }
open Go.RowKit Go.Lib in
theorem Tryz.strings_Repeat (s : ByteArray) (c : Nat) (w : World) (hc : c ≤ 9223372036854775807) (hlen : s.size * c ≤ 140737488355328) :
    Calls Tryz.prog 17 #[.string s, .int .i64 c] w fun e w' => e = .returned (.string ⟨(Lib.repeatL s.data.toList c).toArray⟩) ∧ Below w.heap.size w w' := Any.strings_Repeat Tryz.lays105 Tryz.Builder_Extra_105 s c w hc hlen
end Go.Proofs
set_option maxRecDepth 20000
namespace Go.Proofs.YtldmniappliepaaGreatDoor
open Go Go.Av Go.RowKit
def tbScNum := And.intro (And.intro @tf3 @tf4) (And.intro @tf5 (And.intro @tf9 @tf33))
variable {G : Nat → AV}
def spV : List Value := Lib.asciiSpaceTab.map fun z => .int .u8 z
theorem flat_texts : ∀ L : List (List UInt8), (L.map AV.str).flatMap flat = L.map AV.str
  | [] => rfl
  | x :: l => by rw [List.map_cons, List.flatMap_cons, flat_texts l]; rfl
theorem sfields_pure (hsp : G 1 = .tab spV) (s : List UInt8) (hs : s.length < 4294967281) (ha : s.all (fun b => decide (b.toNat < 128)) = true) (hml : (Lib.fields s).length ≤ maxLen) : Pure Tryz.prog G 12 [.str s] (texts (Lib.fields s)) := by
  intro σ
  refine ⟨by kernel_rfl, fun K w vals hr hv => ?_⟩
  match vals, hv with
  | [v], ⟨hv, _⟩ =>
    rw [VR.str_iff] at hv
    subst hv
    have hg := hr.glob 1
    rw [hsp] at hg
    have htab : Lib.TabIs Tryz.prog w "strings.asciiSpace" .u8 Lib.asciiSpaceTab := by
      cases hg with
      | tab _ _ E fz hb hw =>
        have hblk := (hr.below.block _ hb).trans hw
        unfold Lib.TabIs World.var?
        rw [show Tryz.prog.globalNamed "strings.asciiSpace" = some 1 by kernel_rfl]
        simp [hblk, spV]
    refine (Tryz.strings_Fields ⟨⟨s⟩⟩ w hs (fun j b hj => ?_) htab).mono fun e w' ⟨he, hw⟩ => ?_
    · rw [List.all_eq_true] at ha
      exact of_decide_eq_true (ha b (List.mem_of_getElem? hj))
    · subst hw
      obtain ⟨K', hle, hrel, himm, _⟩ := hr.addImm (((Lib.fields s).map fun l => Value.string ⟨l.toArray⟩).toArray) 9
      refine ⟨_, texts (Lib.fields s), σ, K', he, ⟨rfl, rfl⟩, ?_, hrel, hle⟩
      have h := VR.sl_row (K := K') (g := .none) (xs := (Lib.fields s).map AV.str) (n := 1) (b := w.heap.size) (cap := (Lib.fields s).length) (c := ((Lib.fields s).map fun l => Value.string ⟨l.toArray⟩).toArray)
        (fun a ha => by obtain ⟨x, _, rfl⟩ := List.mem_map.1 ha; exact ⟨rfl, rfl, fun c hc => by simp [flat] at hc; subst hc; rfl⟩) (by simp) hml (fun o ho => himm o (by simpa using ho)) (fun j hj => ?_) trivial
      · rw [List.length_map] at h
        exact h
      · simp only [flat_texts] at hj ⊢
        rw [List.length_map] at hj
        rw [List.getElem_map]
        have e : ((Lib.fields s).map fun l => Value.string ⟨l.toArray⟩).toArray.getD j Go.undef = Value.string ⟨⟨(Lib.fields s)[j]⟩⟩ := by
          simp [Array.getD_eq_getD_getElem?, hj]
        rw [e]
        exact .str _
theorem srepeat_pure (s : List UInt8) (c : Nat) (hc : c ≤ 9223372036854775807) (h : s.length * c ≤ 140737488355328) : Pure Tryz.prog G 17 [.str s, .int .i64 c] (.str (Lib.repeatL s c)) := by
  refine Pure.of_calls (vals := [.string ⟨⟨s⟩⟩, .int .i64 c]) (u := .string ⟨⟨Lib.repeatL s c⟩⟩) (by kernel_rfl) (fun K l h => ?_) (fun K => .str _) (fun K σ w hr => ?_)
  · match l, h with
    | [a, b], ⟨h1, h2, _⟩ => rw [VR.str_iff] at h1; rw [VR.int_iff] at h2; rw [h1, h2]
  · exact Tryz.strings_Repeat ⟨⟨s⟩⟩ c w hc h
theorem sameSelf_pure (l : List (List UInt8)) (hl : l.length ≤ 1000000000) : Pure Tryz.prog G 13 [texts l, texts l] (.bool true) := by
  intro σ
  refine Tri.of_awp mixed Tryz.func13 rfl (by kernel_rfl) (by kernel_rfl) (by simp [Tryz.ntmps13]) Tryz.results13 ?_
  simp -dsimp only [↓bp, bq, br, seval, tbScNum, len_texts]
  refine loop_keep mixed (fun n e => ∃ i : Nat, i ≤ (l).length ∧ n = (l).length - i ∧ e 5 = .int .i64 i ∧ i ≤ l.length + 1) (l).length
      ⟨0, by omega, by omega, by simp -dsimp only [↓bp, bq, br, seval, tbScNum]; first | done | rfl, by omega⟩ ?_
  rintro n v ⟨i, hi, rfl, h5, htk⟩
  simp -dsimp only [↓bp, bq, br, seval, tbScNum] at h5
  simp -dsimp only [↓bp, bq, br, seval, tbScNum, h5, len_texts]
  refine condW_dec (fun hlt => ?_) (fun hge => ?_)
  · obtain ⟨x, hx⟩ : ∃ x, l[i]? = some x := ⟨_, List.getElem?_eq_getElem (by omega)⟩
    have hw : IntKind.i64.wrap ((i : Int) + 1) = ((i + 1 : Nat) : Int) := by rw [wrap_nat (by omega) (by omega)]; rfl
    clear hi hl
    repeat' (first | refine xs ?_ ?_ <;> intros | ((first | refine xh ?_ | refine xi ?_); intro bx hbx; (try simp only [fb] at hbx)) | refine xj ?_ | refine cv_plain ?_ | ((with_reducible refine And.intro ?_ ?_); omega) | refine bo_buildSlice (d' := ⟨⟩) ?_ | refine xk (by kernel_rfl) ?_ | refine xf ?_ (by repeat' first | exact lr _ | assumption | refine ls ?_ ?_ | refine lt ?_ ?_ | simp only [*]; done | simp only [fb, *, not_false_eq_true, and_self]; done | exact lf ‹_› (by simp only [*])) | refine finish_two ?_ (by repeat' first | exact lr _ | assumption | refine ls ?_ ?_ | refine lt ?_ ?_ | simp only [*]; done | simp only [fb, *, not_false_eq_true, and_self]; done | exact lf ‹_› (by simp only [*])) | simp -dsimp only [↓bp, bq, br, seval, tbScNum, len_texts, ix_texts, *] | refine cv_any ?_)
    all_goals (have hlt := (List.getElem?_eq_some_iff.1 hx).1)
    all_goals exact ⟨l.length - (i + 1), by omega, i + 1, by omega, rfl, rfl, by omega⟩
  · have : i = l.length := by omega
    subst this
    clear hi hl
    repeat' (first | refine xs ?_ ?_ <;> intros | ((first | refine xh ?_ | refine xi ?_); intro bx hbx; (try simp only [fb] at hbx)) | refine xj ?_ | refine cv_plain ?_ | ((with_reducible refine And.intro ?_ ?_); omega) | refine bo_buildSlice (d' := ⟨⟩) ?_ | refine xk (by kernel_rfl) ?_ | refine xf ?_ (by repeat' first | exact lr _ | assumption | refine ls ?_ ?_ | refine lt ?_ ?_ | simp only [*]; done | simp only [fb, *, not_false_eq_true, and_self]; done | exact lf ‹_› (by simp only [*])) | refine finish_two ?_ (by repeat' first | exact lr _ | assumption | refine ls ?_ ?_ | refine lt ?_ ?_ | simp only [*]; done | simp only [fb, *, not_false_eq_true, and_self]; done | exact lf ‹_› (by simp only [*])) | simp -dsimp only [↓bp, bq, br, seval, tbScNum, len_texts, *] | refine cv_any ?_)
    all_goals rfl
theorem lexAt_blanks : ∀ (n pos : Nat), lexAt pos (List.replicate n 32) = .ok []
  | 0, pos => rfl
  | n + 1, pos => by
    rw [List.replicate_succ, lexAt_blank (by decide)]
    exact lexAt_blanks n (pos + 1)
theorem scan_blanks (n : Nat) (h : n ≤ 65536) : scanT (List.replicate n 32) = .ok [⟨8, [], n⟩] := by
  unfold scanT
  rw [if_neg (by rw [List.length_replicate]; omega), lexAt_blanks]
  simp
theorem scan_many (c : UInt8) (n : Nat) (h : 65536 < n) : scanT (List.replicate n c) = .bad 3 0 := by
  unfold scanT
  rw [if_pos (by rw [List.length_replicate]; omega)]
theorem scan_word : ∀ w, w ∈ scanWords → scanT w = .ok [⟨6, w, 0⟩, ⟨8, [], w.length⟩] ∧ scanT (39 :: w ++ [39]) = .ok [⟨2, w, 0⟩, ⟨8, [], w.length + 2⟩] ∧ 1 ≤ w.length ∧ w.length ≤ 100 := by decide +kernel
theorem repeatL_one (c : UInt8) : ∀ n, Lib.repeatL [c] n = List.replicate n c
  | 0 => rfl
  | n + 1 => by
    rw [List.replicate_succ, ← repeatL_one c n]; rfl
end Go.Proofs.YtldmniappliepaaGreatDoor
