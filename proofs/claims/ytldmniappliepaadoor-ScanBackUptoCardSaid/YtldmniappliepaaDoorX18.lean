/- The chapter's examples; the words, cloned. -/
import Derived.Test.YtldmniappliepaaDoorX17
import Derived.Test.YtldmniappliepaaDoorX14
set_option linter.unusedVariables false
set_option linter.unusedSimpArgs false
set_option maxRecDepth 20000
set_option linter.defProp false
namespace Go.Proofs.YtldmniappliepaaDoor
open Go Go.Av
section
def tbScnH := And.intro (And.intro (And.intro (And.intro @tf3 @tf4) (And.intro @tf5 @tf9)) (And.intro (And.intro @tf39 @tf31) (And.intro @tf29 @tf24))) (And.intro (And.intro (And.intro @tf46 @tf52) (And.intro @tf26 @tf23)) (And.intro (And.intro @ares_tmpc @ares_cellc) (And.intro @isv_rowOf (And.intro @flat_rowOf @len_rowOf))))
variable {G : Nat → AV}
theorem tokens_tri (hg : GlobS G) (s : List UInt8) (hs : s.length ≤ 1000000000) (σ : AS) : Tri Tryd.prog G 6 [.str s] σ (TokRes σ (scanT s)) := by
  by_cases h : s.length ≤ 65536
  · exact tokens_short hg s h σ
  · exact tokens_long s (by omega) hs σ
theorem tokens_ok (hg : GlobS G) {s : List UInt8} (hs : s.length ≤ 1000000000) {l : List Tok} (h : scanT s = .ok l) : Pure Tryd.prog G 6 [.str s] (.tup [rowOf Tok.enc l, .agg [.int .i64 0, .int .i64 0]]) := by
  refine Pure.of_le fun σ => ?_
  have h1 := tokens_tri hg s hs σ
  rw [h] at h1
  refine Tri.tupBs (n := l.length) (s := 3) (E := 31) (xs := l.map Tok.enc) tok_ok (by rw [List.length_map]) (h1.mono ?_)
  rintro r σ' ⟨b, g1, g2, g3, g4, g5⟩
  exact ⟨b, g1, g2, g3, g4, g5⟩
theorem tokens_bad (hg : GlobS G) {s : List UInt8} (hs : s.length ≤ 1000000000) {e p : Nat} (h : scanT s = .bad e p) : Pure Tryd.prog G 6 [.str s] (.tup [.nil, .agg [.int .i64 e, .int .i64 p]]) := by
  intro σ
  have h1 := tokens_tri hg s hs σ
  rw [h] at h1
  exact Tri.back (h1.mono fun r σ' ⟨g1, g2⟩ => ⟨g1, g2⟩)
theorem eqK_flt : eqK Tryd.prog 26 = some [.int .i64, .int .i64] := by kernel_rfl
theorem eqFlt (a b c d : Int) (op : BinOp) : abin Tryd.prog op 26 (.agg [.int .i64 a, .int .i64 b]) (.agg [.int .i64 c, .int .i64 d]) = aeq op (decide (a = c) && (decide (b = d) && true)) := by
  have e : fldEq [.int .i64, .int .i64] [.int .i64 a, .int .i64 b] [.int .i64 c, .int .i64 d] = some (decide (a = c) && (decide (b = d) && true)) := by
    rw [fe_int, fe_int, fe_nil]; rfl
  rw [abin_agg, eqK_flt]
  simp only [Option.bind_some, e]
theorem is_ok (hg : GlobS G) {s : List UInt8} (hs : s.length ≤ 65536) {l : List Tok} (h : scanT s = .ok l) (want : List Tok) (hw : want.length ≤ 1000000) (g : Gh) : Pure Tryd.prog G 10 [.str s, .sl g (want.map Tok.enc) []] (.bool (decide (l = want))) := by
  have h1 := tokens_ok hg (by omega) h
  have hl : l.length ≤ 1000000 := by
    have := (scan_back h).1
    have h2 := (scanT_ok h).2
    obtain ⟨l0, rfl, hl0⟩ := h2
    have := (lexAt_len _ s (Nat.le_refl _) 0 l0 hl0)
    rw [List.length_append, List.length_singleton]; omega
  have h2 := sameToks_pure G l want (by omega) (by omega)
  refine Pure.lessArgs (args' := [.str s, rowOf Tok.enc want]) ?_ (.cons (Le.refl _) (.cons Le.gh .nil))
  generalize decide (l = want) = B at *
  clear hs h hw hl hg
  intro σ
  have he := eqFlt 0 0 0 0 .eql
  simp only [decide_true, Bool.and_true, aeq] at he
  refine Tri.of_awp mixed Tryd.func10 rfl (by kernel_rfl) (by kernel_rfl) (by simp [Tryd.ntmps10]) Tryd.results10 ?_
  repeat' (first | refine xs ?_ ?_ <;> intros | ((first | refine xh ?_ | refine xi ?_); intro bx hbx; (try simp only [fb] at hbx)) | refine Pure.use (h1) ?_ | refine Pure.head (h1) ?_ | refine Pure.use (h2) ?_ | refine Pure.head (h2) ?_ | refine xj ?_ | refine cv_plain ?_ | ((with_reducible refine And.intro ?_ ?_); omega) | refine bo_buildSlice (d' := ⟨⟩) ?_ | refine xk (by kernel_rfl) ?_ | refine xf ?_ (by repeat' first | exact lr _ | assumption | refine ls ?_ ?_ | refine lt ?_ ?_ | simp only [*]; done | simp only [fb, *, not_false_eq_true, and_self]; done | exact lf ‹_› (by simp only [*])) | refine finish_two ?_ (by repeat' first | exact lr _ | assumption | refine ls ?_ ?_ | refine lt ?_ ?_ | simp only [*]; done | simp only [fb, *, not_false_eq_true, and_self]; done | exact lf ‹_› (by simp only [*])) | simp -dsimp only [↓bp, bq, br, seval, tbScnH, *] | refine cv_any ?_)
  all_goals rfl
theorem fault_bad (hg : GlobS G) {s : List UInt8} (hs : s.length ≤ 1000000000) {e p : Nat} (h : scanT s = .bad e p) : Pure Tryd.prog G 12 [.str s, .int .i64 e, .int .i64 p] (.bool true) := by
  have h1 := tokens_bad hg hs h
  clear hs h hg
  intro σ
  have he := eqFlt e p e p .eql
  simp only [decide_true, Bool.and_true, aeq] at he
  refine Tri.of_awp mixed Tryd.func12 rfl (by kernel_rfl) (by kernel_rfl) (by simp [Tryd.ntmps12]) Tryd.results12 ?_
  repeat' (first | refine xs ?_ ?_ <;> intros | ((first | refine xh ?_ | refine xi ?_); intro bx hbx; (try simp only [fb] at hbx)) | refine Pure.use (h1) ?_ | refine Pure.head (h1) ?_ | refine xj ?_ | refine cv_plain ?_ | ((with_reducible refine And.intro ?_ ?_); omega) | refine bo_buildSlice (d' := ⟨⟩) ?_ | refine xk (by kernel_rfl) ?_ | refine xf ?_ (by repeat' first | exact lr _ | assumption | refine ls ?_ ?_ | refine lt ?_ ?_ | simp only [*]; done | simp only [fb, *, not_false_eq_true, and_self]; done | exact lf ‹_› (by simp only [*])) | refine finish_two ?_ (by repeat' first | exact lr _ | assumption | refine ls ?_ ?_ | refine lt ?_ ?_ | simp only [*]; done | simp only [fb, *, not_false_eq_true, and_self]; done | exact lf ‹_› (by simp only [*])) | simp -dsimp only [↓bp, bq, br, seval, tbScnH, *] | refine cv_any ?_)
  all_goals rfl
theorem ltoken_pure (k p : Int) (t : List UInt8) : Pure Tryd.prog G 11 [.int .u8 k, .str t, .int .i64 p] (.agg [.int .u8 k, .str t, .int .i64 p]) := by
  intro σ
  refine Tri.of_awp mixed Tryd.func11 rfl (by kernel_rfl) (by kernel_rfl) (by simp [Tryd.ntmps11]) Tryd.results11 ?_
  repeat' (first | refine xs ?_ ?_ <;> intros | ((first | refine xh ?_ | refine xi ?_); intro bx hbx; (try simp only [fb] at hbx)) | refine xj ?_ | refine cv_plain ?_ | ((with_reducible refine And.intro ?_ ?_); omega) | refine bo_buildSlice (d' := ⟨⟩) ?_ | refine xk (by kernel_rfl) ?_ | refine xf ?_ (by repeat' first | exact lr _ | assumption | refine ls ?_ ?_ | refine lt ?_ ?_ | simp only [*]; done | simp only [fb, *, not_false_eq_true, and_self]; done | exact lf ‹_› (by simp only [*])) | refine finish_two ?_ (by repeat' first | exact lr _ | assumption | refine ls ?_ ?_ | refine lt ?_ ?_ | simp only [*]; done | simp only [fb, *, not_false_eq_true, and_self]; done | exact lf ‹_› (by simp only [*])) | simp -dsimp only [↓bp, bq, br, seval, tbScnH, *] | refine cv_any ?_)
  all_goals rfl
end
set_option maxRecDepth 20000
section
def tbScnI := And.intro (And.intro (And.intro (And.intro @tf3 @tf4) (And.intro @tf5 (And.intro @tf9 @tf39))) (And.intro (And.intro @tf44 (And.intro @tf31 @tf29)) (And.intro @tf24 (And.intro @tf46 @tf52)))) (And.intro (And.intro (And.intro @tf26 @tf23) (And.intro @ares_tmpc (And.intro @ares_cellc @isv_rowOf))) (And.intro (And.intro @flat_rowOf (And.intro @len_rowOf @ix_rowOf)) (And.intro @Tok.flat_enc (And.intro @Tok.isv_enc @Tok.fold_enc))))
variable {G : Nat → AV}
theorem tsN2 : aelt Tryd.prog 39 = some (9, 1, 16) := tf39.2.2.2.2.2.2
theorem tsE2 : el Tryd.prog 39 = some 9 := tf39.2.2.2.1
theorem flat_str1 (l : List (List UInt8)) : ∀ a, a ∈ l.map AV.str → (flat a).length = 1 := fun a ha => by
  obtain ⟨x, _, rfl⟩ := List.mem_map.1 ha; rfl
variable (G) in
theorem cloneX_tri (x : List UInt8) (l : List (List UInt8)) (hl : (x :: l).length ≤ 1000000) (σ : AS) : Tri Tryd.prog G 16 [texts (x :: l)] σ fun r σ' => Le r (texts (x :: l)) ∧ σ' = σ := by
  have h1 : ∀ op t, (el Tryd.prog t).isSome = true → abin Tryd.prog op t (texts (x :: l)) .nil = aeq op false := fun op t h => by simp [texts, abin, isNil, h]
  have h2 : asrc Tryd.prog 39 (texts (x :: l)) = some ((x :: l).map AV.str) := asrc_sl tsE2
  have h3 := h1 .eql 39 (by rw [tsE2]; rfl)
  refine Tri.of_awp mixed Tryd.func16 rfl (by kernel_rfl) (by kernel_rfl) (by simp [Tryd.ntmps16]) Tryd.results16 ?_
  simp -dsimp only [↓bp, bq, br, seval, tbScnI, h3]
  refine build_none tsN2 ?_
  simp -dsimp only [↓bp, bq, br, seval, tbScnI]
  refine app_full (σ0 := σ) (AS.le.refl σ) (fun a ha => by cases ha) tsN2 h2 (flat_str1 _) (by simp at hl ⊢; omega) (fun he => ?_) (fun v σ1 hB hx => ?_)
  · cases he
  · simp -dsimp only [↓bp, bq, br, seval, tbScnI]
    exact finish_le hB.told hB.le
theorem words_pure (hg : GlobS G) : Pure Tryd.prog G 13 [] (texts scanWords) := by
  have hc : Pure Tryd.prog G 16 [texts scanWords] (texts scanWords) := Pure.of_le fun σ => cloneX_tri G _ _ (by decide) σ
  have hgw := hg.words
  have hsl := slice_words (g := .none)
  generalize scanWords.map AV.str = LL at *
  generalize texts scanWords = W at *
  intro σ
  refine Tri.of_awp mixed Tryd.func13 rfl (by kernel_rfl) (by kernel_rfl) (by simp [Tryd.ntmps13]) Tryd.results13 ?_
  repeat' (first | refine xs ?_ ?_ <;> intros | ((first | refine xh ?_ | refine xi ?_); intro bx hbx; (try simp only [fb] at hbx)) | refine Pure.use (hc) ?_ | refine Pure.head (hc) ?_ | refine xj ?_ | refine cv_plain ?_ | ((with_reducible refine And.intro ?_ ?_); omega) | refine bo_buildSlice (d' := ⟨⟩) ?_ | refine xk (by kernel_rfl) ?_ | refine xf ?_ (by repeat' first | exact lr _ | assumption | refine ls ?_ ?_ | refine lt ?_ ?_ | simp only [*]; done | simp only [fb, *, not_false_eq_true, and_self]; done | exact lf ‹_› (by simp only [*])) | refine finish_two ?_ (by repeat' first | exact lr _ | assumption | refine ls ?_ ?_ | refine lt ?_ ?_ | simp only [*]; done | simp only [fb, *, not_false_eq_true, and_self]; done | exact lf ‹_› (by simp only [*])) | simp -dsimp only [↓bp, bq, br, seval, tbScnI, *] | refine cv_any ?_)
  all_goals rfl
set_option maxHeartbeats 2000000 in
theorem sawake_pure (hg : GlobS G) : Pure Tryd.prog G 5 [] (.bool true) := by
  have h1 := is_ok hg (s := [102, 40, 88, 41, 32, 45, 62, 32, 39, 97, 32, 98, 39, 46, 32, 37, 32, 101, 110, 100]) (by decide) (l := [⟨2, [102], 0⟩, ⟨5, [40], 1⟩, ⟨3, [88], 2⟩, ⟨5, [41], 3⟩, ⟨5, [45, 62], 5⟩, ⟨2, [97, 32, 98], 8⟩, ⟨7, [46], 13⟩, ⟨8, [], 20⟩]) (by decide +kernel) [⟨2, [102], 0⟩, ⟨5, [40], 1⟩, ⟨3, [88], 2⟩, ⟨5, [41], 3⟩, ⟨5, [45, 62], 5⟩, ⟨2, [97, 32, 98], 8⟩, ⟨7, [46], 13⟩, ⟨8, [], 20⟩] (by decide) .full
  rw [decide_eq_true rfl] at h1
  simp [Tok.enc] at h1
  have h2 := fault_bad hg (s := [49, 46, 53]) (by decide) (e := 200) (p := 1) (by decide +kernel)
  have h3 := fault_bad hg (s := [49, 97]) (by decide) (e := 201) (p := 0) (by decide +kernel)
  have h4 := fault_bad hg (s := [39, 97]) (by decide) (e := 201) (p := 0) (by decide +kernel)
  have h5 := fault_bad hg (s := [97, 63]) (by decide) (e := 200) (p := 1) (by decide +kernel)
  have h6 := words_pure hg
  have h7 : ablt Tryd.prog .len #[39] [texts scanWords] = some (.int .i64 19) := by rw [len_texts, tsE2]; rfl
  generalize texts scanWords = W at *
  have ht := fun k t p => ltoken_pure (G := G) k p t
  clear hg
  intro σ
  refine Tri.of_awp mixed Tryd.func5 rfl (by kernel_rfl) (by kernel_rfl) (by simp [Tryd.ntmps5]) Tryd.results5 ?_
  repeat' (first | refine xs ?_ ?_ <;> intros | ((first | refine xh ?_ | refine xi ?_); intro bx hbx; (try simp only [fb] at hbx)) | refine Pure.use (ht _ _ _) ?_ | refine Pure.head (ht _ _ _) ?_ | refine Pure.use (h1) ?_ | refine Pure.head (h1) ?_ | refine Pure.use (h2) ?_ | refine Pure.head (h2) ?_ | refine Pure.use (h3) ?_ | refine Pure.head (h3) ?_ | refine Pure.use (h4) ?_ | refine Pure.head (h4) ?_ | refine Pure.use (h5) ?_ | refine Pure.head (h5) ?_ | refine Pure.use (h6) ?_ | refine Pure.head (h6) ?_ | refine xj ?_ | refine cv_plain ?_ | ((with_reducible refine And.intro ?_ ?_); omega) | refine bo_buildSlice (d' := ⟨⟩) ?_ | refine xk (by kernel_rfl) ?_ | refine xf ?_ (by repeat' first | exact lr _ | assumption | refine ls ?_ ?_ | refine lt ?_ ?_ | simp only [*]; done | simp only [fb, *, not_false_eq_true, and_self]; done | exact lf ‹_› (by simp only [*])) | refine finish_two ?_ (by repeat' first | exact lr _ | assumption | refine ls ?_ ?_ | refine lt ?_ ?_ | simp only [*]; done | simp only [fb, *, not_false_eq_true, and_self]; done | exact lf ‹_› (by simp only [*])) | simp -dsimp only [↓bp, bq, br, seval, tbScnI, *] | refine cv_any ?_)
  all_goals rfl
end
set_option maxRecDepth 20000
section
variable {G : Nat → AV}
end
set_option maxRecDepth 20000
section
def tbSpelt := And.intro (And.intro (And.intro @tf3 @tf4) (And.intro @tf5 (And.intro @tf9 @tf44))) (And.intro (And.intro @tf31 @tf29) (And.intro @Tok.flat_enc (And.intro @Tok.isv_enc @Tok.fold_enc)))
variable {G : Nat → AV}
theorem spelt_other (t : Tok) (h2 : t.kind ≠ 2) (h4 : t.kind ≠ 4) : spelt t.kind t.text = t.text := by unfold spelt; rw [if_neg h2, if_neg h4]
theorem tfB2 : aelt Tryd.prog 44 = some (5, 1, 1) := tf44.2.2.2.2.2.2
theorem tfBE2 : el Tryd.prog 44 = some 5 := tf44.2.2.2.1
theorem bytesOf_map2 : ∀ t : List UInt8, bytesOf (bytesA t) = some t
  | [] => rfl
  | c :: t => by
    have ih := bytesOf_map2 t
    unfold bytesA at ih ⊢
    rw [List.map_cons]
    unfold bytesOf
    rw [ih]
    have e : Av.byteOf (byteA c) = some c := by
      show some (UInt8.ofNat (c.toNat : Int).toNat) = some c
      rw [Int.toNat_natCast, UInt8.ofNat_toNat]
    rw [e]
theorem buf_text2 {n : Nat} {σ0 σ : AS} {v : AV} {t : List UInt8} (h : Buf n σ0 σ v (bytesA t)) {K : AV → Prop} {d : Dum K} (hK : K (.str t)) : bo (aconvZ Tryd.prog σ 44 9 v) K d := by
  have hx := bytesOf_map2 t
  rcases h.isNil with ⟨h0, rfl⟩ | ⟨b, rfl⟩
  · have : t = [] := by simpa [bytesA] using h0
    subst this
    rw [aconvZ_nil]
    refine ⟨.str [], ?_, hK⟩
    simp [tf44, tf5, tf9, cvb_some, bytesOf]
  · rw [aconvZ_sl]
    refine ⟨.str t, ?_, hK⟩
    simp [tf44, tf5, tf9, cvb_some, hx]
def digS : List UInt8 := [48, 49, 50, 51, 52, 53, 54, 55, 56, 57, 97, 66, 99, 68, 101, 70]
theorem digS_get (n : Nat) (h : n < 16) : digS[n]? = some (dig n) := by
  have : ∀ n, n < 16 → digS[n]? = some (dig n) := by decide
  exact this n h
theorem escs_snoc (t : List UInt8) (c : UInt8) : escs (t ++ [c]) = escs t ++ [92, 120, dig (c.toNat / 16), dig (c.toNat % 16)] := by simp [escs]
set_option maxHeartbeats 2000000 in
theorem spelt_pure (t : Tok) (ht : t.text.length ≤ 1000000) : Pure Tryd.prog G 7 [t.enc] (.str (spelt t.kind t.text)) := by
  by_cases hq : t.kind = 2 ∨ t.kind = 4
  · obtain ⟨q, hk, hsp, hk2⟩ : ∃ q : UInt8, (((t.kind : Int) = 2) = True ∧ q = 39 ∨ ((t.kind : Int) = 2) = False ∧ ((t.kind : Int) = 4) = True ∧ q = 34) ∧ spelt t.kind t.text = q :: (escs t.text ++ [q]) ∧ (q = 39 ∨ q = 34) := by
      rcases hq with h | h
      · exact ⟨39, .inl ⟨eq_true (by omega), rfl⟩, by rw [h]; rfl, .inl rfl⟩
      · exact ⟨34, .inr ⟨eq_false (by omega), eq_true (by omega), rfl⟩, by rw [h]; rfl, .inr rfl⟩
    rw [hsp]
    clear hsp hq
    have e0 : q :: (escs t.text ++ [q]) = [q] ++ escs t.text ++ [q] := by simp
    rw [e0]
    clear e0
    refine Pure.of_le fun σ => ?_
    have hml : (1 ≤ maxLen) = True := eq_true (by unfold maxLen; omega)
    have hdig : ∀ c : UInt8, digS[c.toNat / 16]? = some (dig (c.toNat / 16)) ∧ digS[c.toNat % 16]? = some (dig (c.toNat % 16)) := fun c => ⟨digS_get _ (by have := c.toNat_lt; omega), digS_get _ (by omega)⟩
    obtain ⟨k, tx, p⟩ := t
    simp only at hk ht ⊢
    rcases hk with ⟨k1, rfl⟩ | ⟨k1, k2, rfl⟩
    · refine Tri.of_awp mixed Tryd.func7 rfl (by kernel_rfl) (by kernel_rfl) (by simp [Tryd.ntmps7]) Tryd.results7 ?_
      repeat' (first | refine xs ?_ ?_ <;> intros | ((first | refine xh ?_ | refine xi ?_); intro bx hbx; (try simp only [fb] at hbx)) | ((refine cv_own (e := 5) tf9.2.2.1 tf44.2.2.2.1 tf5.2.1 (by simp [maxLen]) (fun b hb => ?_))) | refine xj ?_ | refine cv_plain ?_ | ((with_reducible refine And.intro ?_ ?_); omega) | refine bo_buildSlice (d' := ⟨⟩) ?_ | refine xk (by kernel_rfl) ?_ | refine xf ?_ (by repeat' first | exact lr _ | assumption | refine ls ?_ ?_ | refine lt ?_ ?_ | simp only [*]; done | simp only [fb, *, not_false_eq_true, and_self]; done | exact lf ‹_› (by simp only [*])) | refine finish_two ?_ (by repeat' first | exact lr _ | assumption | refine ls ?_ ?_ | refine lt ?_ ?_ | simp only [*]; done | simp only [fb, *, not_false_eq_true, and_self]; done | exact lf ‹_› (by simp only [*])) | simp -dsimp only [↓bp, bq, br, seval, tbSpelt, *] | refine cv_any ?_)
      have hle0 : σ.le (σ.setBox bx [.int .u8 k, .str tx, .int .i64 p]) := (AS.le.refl σ).setBox hbx.1 _
      have hbx0 : (σ.setBox bx [.int .u8 k, .str tx, .int .i64 p]).box bx = some [.int .u8 k, .str tx, .int .i64 p] := AS.set_get
      generalize σ.setBox bx [.int .u8 k, .str tx, .int .i64 p] = S at *
      have hB0 : Buf 1 S (S.setTip b (1, 1)) (.sl (.own b) [.int .u8 39] []) (bytesA [39]) := .own b (bytesA [39]) ((AS.le.refl S).setTip hb.2.1 _) hb.2.1 (by simp [AS.setTip, bytesA]) (fun a ha => by simp [bytesA] at ha; subst ha; rfl)
      refine loop_intro (fun n e σ' => ∃ (i : Nat) (v : AV), i ≤ tx.length ∧ n = tx.length - i ∧ e 5 = .int .i64 i ∧ e 4 = v ∧ Buf 1 S σ' v (bytesA ([39] ++ escs (tx.take i)))) tx.length
        ⟨0, _, by omega, by omega, by first | (simp -dsimp only [↓bp, bq, br, seval, tbSpelt]; done) | (simp -dsimp only [↓bp, bq, br, seval, tbSpelt]; try rfl), by first | (simp -dsimp only [↓bp, bq, br, seval, tbSpelt]; done) | (simp -dsimp only [↓bp, bq, br, seval, tbSpelt]; try rfl), by simpa [escs] using hB0⟩ ?_
      clear hB0
      rintro n e σ2 ⟨i, v, hi, rfl, h5, h4, hB⟩
      simp -dsimp only [↓bp, bq, br, seval, tbSpelt] at h5 h4
      have hb2 := hB.le.box _ _ hbx0
      have hle2 := hle0.trans hB.le
      by_cases hlt : (i : Int) < tx.length
      · obtain ⟨c, hc⟩ : ∃ c, tx[i]? = some c := ⟨_, List.getElem?_eq_getElem (by omega)⟩
        have hlt' := eq_true hlt
        have hw : IntKind.i64.wrap ((i : Int) + 1) = ((i + 1 : Nat) : Int) := by rw [wrap_nat (by omega) (by omega)]; rfl
        obtain ⟨g1, g2⟩ := hdig c
        unfold digS at g1 g2
        have hct := c.toNat_lt
        have d1 : (c.toNat : Int).tdiv 16 = ((c.toNat / 16 : Nat) : Int) := by rw [Int.tdiv_eq_ediv_of_nonneg (by omega)]; omega
        have d2 : (c.toNat : Int).tmod 16 = ((c.toNat % 16 : Nat) : Int) := by rw [Int.tmod_eq_emod_of_nonneg (by omega)]; omega
        have d3 : IntKind.u8.wrap ((c.toNat / 16 : Nat) : Int) = ((c.toNat / 16 : Nat) : Int) := by unfold IntKind.wrap; simp [IntKind.signed, IntKind.bits]; omega
        have d4 : IntKind.u8.wrap ((c.toNat % 16 : Nat) : Int) = ((c.toNat % 16 : Nat) : Int) := by unfold IntKind.wrap; simp [IntKind.signed, IntKind.bits]; omega
        have hel : (escs (tx.take i)).length = 4 * i := by
          have : ∀ l : List UInt8, (escs l).length = 4 * l.length := fun l => by induction l with | nil => rfl | cons x l ih => simp only [escs, List.flatMap_cons, List.length_append, List.length_cons] at ih ⊢; simp only [List.length_nil]; omega
          rw [this, List.length_take]; omega
        have hsn : bytesA ([39] ++ escs (tx.take (i + 1))) = bytesA ([39] ++ escs (tx.take i)) ++ [.int .u8 92, .int .u8 120, byteA (dig (c.toNat / 16)), byteA (dig (c.toNat % 16))] := by
          rw [take_succ_get _ _ _ hc, escs_snoc]; simp [bytesA]; exact ⟨rfl, rfl⟩
        generalize dig (c.toNat / 16) = x1 at *
        generalize dig (c.toNat % 16) = x2 at *
        generalize c.toNat / 16 = y1 at *
        generalize c.toNat % 16 = y2 at *
        repeat' (first | refine xs ?_ ?_ <;> intros | ((first | refine xh ?_ | refine xi ?_); intro bx hbx; (try simp only [fb] at hbx); try (have nn := fresh_ne (c := bx) hb2 (by simp only [hbx]))) | (refine app_buf (ys := [.int .u8 92, .int .u8 120, byteA x1, byteA x2]) hB tfB2 (asrc_sl tfBE2) (fun a ha => by simp at ha; rcases ha with rfl | rfl | rfl | rfl <;> rfl) (by rw [bytesA_len, List.length_append, hel]; simp only [List.length_cons, List.length_nil]; omega) (fun v3 σ3 hB4 hx4 => ?_)) | refine xj ?_ | refine cv_plain ?_ | ((with_reducible refine And.intro ?_ ?_); omega) | refine bo_buildSlice (d' := ⟨⟩) ?_ | refine xk (by kernel_rfl) ?_ | refine xf ?_ (by repeat' first | exact lr _ | assumption | refine ls ?_ ?_ | refine lt ?_ ?_ | simp only [*]; done | simp only [fb, *, not_false_eq_true, and_self]; done | exact lf ‹_› (by simp only [*])) | refine finish_two ?_ (by repeat' first | exact lr _ | assumption | refine ls ?_ ?_ | refine lt ?_ ?_ | simp only [*]; done | simp only [fb, *, not_false_eq_true, and_self]; done | exact lf ‹_› (by simp only [*])) | simp -dsimp only [↓bp, bq, br, seval, tbSpelt, *] | refine cv_any ?_)
        all_goals (have hlt := of_eq_true hlt')
        all_goals exact ⟨tx.length - (i + 1), by omega, i + 1, v3, by omega, by omega, rfl, rfl, by show Buf 1 S σ3 v3 (bytesA ([39] ++ escs (tx.take (i + 1)))); rw [hsn]; exact hB4⟩
      · have : i = tx.length := by omega
        subst this
        have hlt' := eq_false hlt
        rw [List.take_length] at hB
        have hml2 : (([39] ++ escs tx).length + 1 ≤ maxLen) = True := eq_true (by
          have : ∀ l : List UInt8, (escs l).length = 4 * l.length := fun l => by induction l with | nil => rfl | cons x l ih => simp only [escs, List.flatMap_cons, List.length_append, List.length_cons] at ih ⊢; simp only [List.length_nil]; omega
          rw [List.length_append, this]; unfold maxLen; simp only [List.length_singleton]; omega)
        repeat' (first | refine xs ?_ ?_ <;> intros | ((first | refine xh ?_ | refine xi ?_); intro bx hbx; (try simp only [fb] at hbx); try (have nn := fresh_ne (c := bx) hb2 (by simp only [hbx]))) | (refine buf_text2 hB ?_) | refine xj ?_ | refine cv_plain ?_ | ((with_reducible refine And.intro ?_ ?_); omega) | refine bo_buildSlice (d' := ⟨⟩) ?_ | refine xk (by kernel_rfl) ?_ | refine xf ?_ (by repeat' first | exact lr _ | assumption | refine ls ?_ ?_ | refine lt ?_ ?_ | simp only [*]; done | simp only [fb, *, not_false_eq_true, and_self]; done | exact lf ‹_› (by simp only [*])) | refine finish_two ?_ (by repeat' first | exact lr _ | assumption | refine ls ?_ ?_ | refine lt ?_ ?_ | simp only [*]; done | simp only [fb, *, not_false_eq_true, and_self]; done | exact lf ‹_› (by simp only [*])) | simp -dsimp only [↓bp, bq, br, seval, tbSpelt, *] | refine cv_any ?_)
        all_goals exact ⟨by have := of_eq_true hml2; rw [List.length_append] at this; simp only [List.length_singleton] at this; omega, finish_le (show Le _ (.str (39 :: (escs tx ++ [39]))) from Le.refl _) hle2⟩
    · refine Tri.of_awp mixed Tryd.func7 rfl (by kernel_rfl) (by kernel_rfl) (by simp [Tryd.ntmps7]) Tryd.results7 ?_
      repeat' (first | refine xs ?_ ?_ <;> intros | ((first | refine xh ?_ | refine xi ?_); intro bx hbx; (try simp only [fb] at hbx)) | ((refine cv_own (e := 5) tf9.2.2.1 tf44.2.2.2.1 tf5.2.1 (by simp [maxLen]) (fun b hb => ?_))) | refine xj ?_ | refine cv_plain ?_ | ((with_reducible refine And.intro ?_ ?_); omega) | refine bo_buildSlice (d' := ⟨⟩) ?_ | refine xk (by kernel_rfl) ?_ | refine xf ?_ (by repeat' first | exact lr _ | assumption | refine ls ?_ ?_ | refine lt ?_ ?_ | simp only [*]; done | simp only [fb, *, not_false_eq_true, and_self]; done | exact lf ‹_› (by simp only [*])) | refine finish_two ?_ (by repeat' first | exact lr _ | assumption | refine ls ?_ ?_ | refine lt ?_ ?_ | simp only [*]; done | simp only [fb, *, not_false_eq_true, and_self]; done | exact lf ‹_› (by simp only [*])) | simp -dsimp only [↓bp, bq, br, seval, tbSpelt, *] | refine cv_any ?_)
      have hle0 : σ.le (σ.setBox bx [.int .u8 k, .str tx, .int .i64 p]) := (AS.le.refl σ).setBox hbx.1 _
      have hbx0 : (σ.setBox bx [.int .u8 k, .str tx, .int .i64 p]).box bx = some [.int .u8 k, .str tx, .int .i64 p] := AS.set_get
      generalize σ.setBox bx [.int .u8 k, .str tx, .int .i64 p] = S at *
      have hB0 : Buf 1 S (S.setTip b (1, 1)) (.sl (.own b) [.int .u8 34] []) (bytesA [34]) := .own b (bytesA [34]) ((AS.le.refl S).setTip hb.2.1 _) hb.2.1 (by simp [AS.setTip, bytesA]) (fun a ha => by simp [bytesA] at ha; subst ha; rfl)
      refine loop_intro (fun n e σ' => ∃ (i : Nat) (v : AV), i ≤ tx.length ∧ n = tx.length - i ∧ e 5 = .int .i64 i ∧ e 4 = v ∧ Buf 1 S σ' v (bytesA ([34] ++ escs (tx.take i)))) tx.length
        ⟨0, _, by omega, by omega, by first | (simp -dsimp only [↓bp, bq, br, seval, tbSpelt]; done) | (simp -dsimp only [↓bp, bq, br, seval, tbSpelt]; try rfl), by first | (simp -dsimp only [↓bp, bq, br, seval, tbSpelt]; done) | (simp -dsimp only [↓bp, bq, br, seval, tbSpelt]; try rfl), by simpa [escs] using hB0⟩ ?_
      clear hB0
      rintro n e σ2 ⟨i, v, hi, rfl, h5, h4, hB⟩
      simp -dsimp only [↓bp, bq, br, seval, tbSpelt] at h5 h4
      have hb2 := hB.le.box _ _ hbx0
      have hle2 := hle0.trans hB.le
      by_cases hlt : (i : Int) < tx.length
      · obtain ⟨c, hc⟩ : ∃ c, tx[i]? = some c := ⟨_, List.getElem?_eq_getElem (by omega)⟩
        have hlt' := eq_true hlt
        have hw : IntKind.i64.wrap ((i : Int) + 1) = ((i + 1 : Nat) : Int) := by rw [wrap_nat (by omega) (by omega)]; rfl
        obtain ⟨g1, g2⟩ := hdig c
        unfold digS at g1 g2
        have hct := c.toNat_lt
        have d1 : (c.toNat : Int).tdiv 16 = ((c.toNat / 16 : Nat) : Int) := by rw [Int.tdiv_eq_ediv_of_nonneg (by omega)]; omega
        have d2 : (c.toNat : Int).tmod 16 = ((c.toNat % 16 : Nat) : Int) := by rw [Int.tmod_eq_emod_of_nonneg (by omega)]; omega
        have d3 : IntKind.u8.wrap ((c.toNat / 16 : Nat) : Int) = ((c.toNat / 16 : Nat) : Int) := by unfold IntKind.wrap; simp [IntKind.signed, IntKind.bits]; omega
        have d4 : IntKind.u8.wrap ((c.toNat % 16 : Nat) : Int) = ((c.toNat % 16 : Nat) : Int) := by unfold IntKind.wrap; simp [IntKind.signed, IntKind.bits]; omega
        have hel : (escs (tx.take i)).length = 4 * i := by
          have : ∀ l : List UInt8, (escs l).length = 4 * l.length := fun l => by induction l with | nil => rfl | cons x l ih => simp only [escs, List.flatMap_cons, List.length_append, List.length_cons] at ih ⊢; simp only [List.length_nil]; omega
          rw [this, List.length_take]; omega
        have hsn : bytesA ([34] ++ escs (tx.take (i + 1))) = bytesA ([34] ++ escs (tx.take i)) ++ [.int .u8 92, .int .u8 120, byteA (dig (c.toNat / 16)), byteA (dig (c.toNat % 16))] := by
          rw [take_succ_get _ _ _ hc, escs_snoc]; simp [bytesA]; exact ⟨rfl, rfl⟩
        generalize dig (c.toNat / 16) = x1 at *
        generalize dig (c.toNat % 16) = x2 at *
        generalize c.toNat / 16 = y1 at *
        generalize c.toNat % 16 = y2 at *
        repeat' (first | refine xs ?_ ?_ <;> intros | ((first | refine xh ?_ | refine xi ?_); intro bx hbx; (try simp only [fb] at hbx); try (have nn := fresh_ne (c := bx) hb2 (by simp only [hbx]))) | (refine app_buf (ys := [.int .u8 92, .int .u8 120, byteA x1, byteA x2]) hB tfB2 (asrc_sl tfBE2) (fun a ha => by simp at ha; rcases ha with rfl | rfl | rfl | rfl <;> rfl) (by rw [bytesA_len, List.length_append, hel]; simp only [List.length_cons, List.length_nil]; omega) (fun v3 σ3 hB4 hx4 => ?_)) | refine xj ?_ | refine cv_plain ?_ | ((with_reducible refine And.intro ?_ ?_); omega) | refine bo_buildSlice (d' := ⟨⟩) ?_ | refine xk (by kernel_rfl) ?_ | refine xf ?_ (by repeat' first | exact lr _ | assumption | refine ls ?_ ?_ | refine lt ?_ ?_ | simp only [*]; done | simp only [fb, *, not_false_eq_true, and_self]; done | exact lf ‹_› (by simp only [*])) | refine finish_two ?_ (by repeat' first | exact lr _ | assumption | refine ls ?_ ?_ | refine lt ?_ ?_ | simp only [*]; done | simp only [fb, *, not_false_eq_true, and_self]; done | exact lf ‹_› (by simp only [*])) | simp -dsimp only [↓bp, bq, br, seval, tbSpelt, *] | refine cv_any ?_)
        all_goals (have hlt := of_eq_true hlt')
        all_goals exact ⟨tx.length - (i + 1), by omega, i + 1, v3, by omega, by omega, rfl, rfl, by show Buf 1 S σ3 v3 (bytesA ([34] ++ escs (tx.take (i + 1)))); rw [hsn]; exact hB4⟩
      · have : i = tx.length := by omega
        subst this
        have hlt' := eq_false hlt
        rw [List.take_length] at hB
        have hml2 : (([34] ++ escs tx).length + 1 ≤ maxLen) = True := eq_true (by
          have : ∀ l : List UInt8, (escs l).length = 4 * l.length := fun l => by induction l with | nil => rfl | cons x l ih => simp only [escs, List.flatMap_cons, List.length_append, List.length_cons] at ih ⊢; simp only [List.length_nil]; omega
          rw [List.length_append, this]; unfold maxLen; simp only [List.length_singleton]; omega)
        repeat' (first | refine xs ?_ ?_ <;> intros | ((first | refine xh ?_ | refine xi ?_); intro bx hbx; (try simp only [fb] at hbx); try (have nn := fresh_ne (c := bx) hb2 (by simp only [hbx]))) | (refine buf_text2 hB ?_) | refine xj ?_ | refine cv_plain ?_ | ((with_reducible refine And.intro ?_ ?_); omega) | refine bo_buildSlice (d' := ⟨⟩) ?_ | refine xk (by kernel_rfl) ?_ | refine xf ?_ (by repeat' first | exact lr _ | assumption | refine ls ?_ ?_ | refine lt ?_ ?_ | simp only [*]; done | simp only [fb, *, not_false_eq_true, and_self]; done | exact lf ‹_› (by simp only [*])) | refine finish_two ?_ (by repeat' first | exact lr _ | assumption | refine ls ?_ ?_ | refine lt ?_ ?_ | simp only [*]; done | simp only [fb, *, not_false_eq_true, and_self]; done | exact lf ‹_› (by simp only [*])) | simp -dsimp only [↓bp, bq, br, seval, tbSpelt, *] | refine cv_any ?_)
        all_goals exact ⟨by have := of_eq_true hml2; rw [List.length_append] at this; simp only [List.length_singleton] at this; omega, finish_le (show Le _ (.str (34 :: (escs tx ++ [34]))) from Le.refl _) hle2⟩
  · have h2 : ((t.kind : Int) = 2) = False := eq_false (by omega)
    have h4 : ((t.kind : Int) = 4) = False := eq_false (by omega)
    rw [spelt_other t (by omega) (by omega)]
    clear hq ht
    intro σ
    refine Tri.of_awp mixed Tryd.func7 rfl (by kernel_rfl) (by kernel_rfl) (by simp [Tryd.ntmps7]) Tryd.results7 ?_
    repeat' (first | refine xs ?_ ?_ <;> intros | ((first | refine xh ?_ | refine xi ?_); intro bx hbx; (try simp only [fb] at hbx)) | refine xj ?_ | refine cv_plain ?_ | ((with_reducible refine And.intro ?_ ?_); omega) | refine bo_buildSlice (d' := ⟨⟩) ?_ | refine xk (by kernel_rfl) ?_ | refine xf ?_ (by repeat' first | exact lr _ | assumption | refine ls ?_ ?_ | refine lt ?_ ?_ | simp only [*]; done | simp only [fb, *, not_false_eq_true, and_self]; done | exact lf ‹_› (by simp only [*])) | refine finish_two ?_ (by repeat' first | exact lr _ | assumption | refine ls ?_ ?_ | refine lt ?_ ?_ | simp only [*]; done | simp only [fb, *, not_false_eq_true, and_self]; done | exact lf ‹_› (by simp only [*])) | simp -dsimp only [↓bp, bq, br, seval, tbSpelt, *] | refine cv_any ?_)
    all_goals rfl
end
end Go.Proofs.YtldmniappliepaaDoor
