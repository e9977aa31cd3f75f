/- The chapter's examples hold; tokens written again; whether they are the same but for their places. -/
import Derived.Test.YtldmniappliepaaGreatDoorY21
import Derived.Test.YtldmniappliepaaGreatDoorY16
import Derived.Test.YtldmniappliepaaGreatDoorY09
import Derived.Test.YtldmniappliepaaGreatDoorChecked
import Derived.KernelRfl
set_option linter.unusedVariables false
set_option linter.unusedSimpArgs false
set_option maxRecDepth 20000
set_option linter.defProp false
namespace Go.Proofs.YtldmniappliepaaGreatDoor
open Go Go.Av
section
def tbScnI := And.intro (And.intro (And.intro (And.intro @tf3 @tf4) (And.intro @tf5 (And.intro @tf9 @tf33))) (And.intro (And.intro @tf37 (And.intro @tf43 @tf41)) (And.intro @tf24 (And.intro @tf76 @tf98)))) (And.intro (And.intro (And.intro @tf26 @tf23) (And.intro @ares_tmpc (And.intro @ares_cellc @isv_rowOf))) (And.intro (And.intro @flat_rowOf (And.intro @len_rowOf @ix_rowOf)) (And.intro @Tok.flat_enc (And.intro @Tok.isv_enc @Tok.fold_enc))))
variable {G : Nat → AV}
theorem tsN2 : aelt Tryz.prog 33 = some (9, 1, 16) := tf33.2.2.2.2.2.2
theorem tsE2 : el Tryz.prog 33 = some 9 := tf33.2.2.2.1
theorem flat_str1 (l : List (List UInt8)) : ∀ a, a ∈ l.map AV.str → (flat a).length = 1 := fun a ha => by
  obtain ⟨x, _, rfl⟩ := List.mem_map.1 ha; rfl
variable (G) in
theorem cloneX_tri (x : List UInt8) (l : List (List UInt8)) (hl : (x :: l).length ≤ 1000000) (σ : AS) : Tri Tryz.prog G 26 [texts (x :: l)] σ fun r σ' => Le r (texts (x :: l)) ∧ σ' = σ := by
  have h1 : ∀ op t, (el Tryz.prog t).isSome = true → abin Tryz.prog op t (texts (x :: l)) .nil = aeq op false := fun op t h => by simp [texts, abin, isNil, h]
  have h2 : asrc Tryz.prog 33 (texts (x :: l)) = some ((x :: l).map AV.str) := asrc_sl tsE2
  have h3 := h1 .eql 33 (by rw [tsE2]; rfl)
  refine Tri.of_awp mixed Tryz.func26 rfl (by kernel_rfl) (by kernel_rfl) (by simp [Tryz.ntmps26]) Tryz.results26 ?_
  simp -dsimp only [↓bp, bq, br, seval, tbScnI, h3]
  refine build_none tsN2 ?_
  simp -dsimp only [↓bp, bq, br, seval, tbScnI]
  refine app_full (σ0 := σ) (AS.le.refl σ) (fun a ha => by cases ha) tsN2 h2 (flat_str1 _) (by simp at hl ⊢; omega) (fun he => ?_) (fun v σ1 hB hx => ?_)
  · cases he
  · simp -dsimp only [↓bp, bq, br, seval, tbScnI]
    exact finish_le hB.told hB.le
theorem words_pure (hg : GlobS G) : Pure Tryz.prog G 11 [] (texts scanWords) := by
  have hc : Pure Tryz.prog G 26 [texts scanWords] (texts scanWords) := Pure.of_le fun σ => cloneX_tri G _ _ (by decide) σ
  have hgw := hg.words
  have hsl := slice_words (g := .none)
  generalize scanWords.map AV.str = LL at *
  generalize texts scanWords = W at *
  intro σ
  refine Tri.of_awp mixed Tryz.func11 rfl (by kernel_rfl) (by kernel_rfl) (by simp [Tryz.ntmps11]) Tryz.results11 ?_
  repeat' (first | refine xs ?_ ?_ <;> intros | ((first | refine xh ?_ | refine xi ?_); intro bx hbx; (try simp only [fb] at hbx)) | refine Pure.use (hc) ?_ | refine Pure.head (hc) ?_ | refine xj ?_ | refine cv_plain ?_ | ((with_reducible refine And.intro ?_ ?_); omega) | refine bo_buildSlice (d' := ⟨⟩) ?_ | refine xk (by kernel_rfl) ?_ | refine xf ?_ (by repeat' first | exact lr _ | assumption | refine ls ?_ ?_ | refine lt ?_ ?_ | simp only [*]; done | simp only [fb, *, not_false_eq_true, and_self]; done | exact lf ‹_› (by simp only [*])) | refine finish_two ?_ (by repeat' first | exact lr _ | assumption | refine ls ?_ ?_ | refine lt ?_ ?_ | simp only [*]; done | simp only [fb, *, not_false_eq_true, and_self]; done | exact lf ‹_› (by simp only [*])) | simp -dsimp only [↓bp, bq, br, seval, tbScnI, *] | refine cv_any ?_)
  all_goals rfl
set_option maxHeartbeats 2000000 in
theorem sawake_pure (hg : GlobS G) : Pure Tryz.prog G 5 [] (.bool true) := by
  have h1 := is_ok hg (s := [102, 40, 88, 41, 32, 45, 62, 32, 39, 97, 32, 98, 39, 46, 32, 37, 32, 101, 110, 100]) (by decide) (l := [⟨2, [102], 0⟩, ⟨5, [40], 1⟩, ⟨3, [88], 2⟩, ⟨5, [41], 3⟩, ⟨5, [45, 62], 5⟩, ⟨2, [97, 32, 98], 8⟩, ⟨7, [46], 13⟩, ⟨8, [], 20⟩]) (by decide +kernel) [⟨2, [102], 0⟩, ⟨5, [40], 1⟩, ⟨3, [88], 2⟩, ⟨5, [41], 3⟩, ⟨5, [45, 62], 5⟩, ⟨2, [97, 32, 98], 8⟩, ⟨7, [46], 13⟩, ⟨8, [], 20⟩] (by decide) .full
  rw [decide_eq_true rfl] at h1
  simp [Tok.enc] at h1
  have h2 := fault_bad hg (s := [49, 46, 53]) (by decide) (e := 200) (p := 1) (by decide +kernel)
  have h3 := fault_bad hg (s := [49, 97]) (by decide) (e := 201) (p := 0) (by decide +kernel)
  have h4 := fault_bad hg (s := [39, 97]) (by decide) (e := 201) (p := 0) (by decide +kernel)
  have h5 := fault_bad hg (s := [97, 63]) (by decide) (e := 200) (p := 1) (by decide +kernel)
  have h6 := words_pure hg
  have h7 : ablt Tryz.prog .len #[33] [texts scanWords] = some (.int .i64 19) := by rw [len_texts, tsE2]; rfl
  generalize texts scanWords = W at *
  have ht := fun k t p => ltoken_pure (G := G) k p t
  clear hg
  intro σ
  refine Tri.of_awp mixed Tryz.func5 rfl (by kernel_rfl) (by kernel_rfl) (by simp [Tryz.ntmps5]) Tryz.results5 ?_
  repeat' (first | refine xs ?_ ?_ <;> intros | ((first | refine xh ?_ | refine xi ?_); intro bx hbx; (try simp only [fb] at hbx)) | refine Pure.use (ht _ _ _) ?_ | refine Pure.head (ht _ _ _) ?_ | refine Pure.use (h1) ?_ | refine Pure.head (h1) ?_ | refine Pure.use (h2) ?_ | refine Pure.head (h2) ?_ | refine Pure.use (h3) ?_ | refine Pure.head (h3) ?_ | refine Pure.use (h4) ?_ | refine Pure.head (h4) ?_ | refine Pure.use (h5) ?_ | refine Pure.head (h5) ?_ | refine Pure.use (h6) ?_ | refine Pure.head (h6) ?_ | refine xj ?_ | refine cv_plain ?_ | ((with_reducible refine And.intro ?_ ?_); omega) | refine bo_buildSlice (d' := ⟨⟩) ?_ | refine xk (by kernel_rfl) ?_ | refine xf ?_ (by repeat' first | exact lr _ | assumption | refine ls ?_ ?_ | refine lt ?_ ?_ | simp only [*]; done | simp only [fb, *, not_false_eq_true, and_self]; done | exact lf ‹_› (by simp only [*])) | refine finish_two ?_ (by repeat' first | exact lr _ | assumption | refine ls ?_ ?_ | refine lt ?_ ?_ | simp only [*]; done | simp only [fb, *, not_false_eq_true, and_self]; done | exact lf ‹_› (by simp only [*])) | simp -dsimp only [↓bp, bq, br, seval, tbScnI, *] | refine cv_any ?_)
  all_goals rfl
end
set_option maxRecDepth 20000
section
variable {G : Nat → AV}
def cellsT (l : List Tok) : List AV := (l.map Tok.enc).flatMap flat
theorem cellsT_cons (t : Tok) (l : List Tok) : cellsT (t :: l) = [.int .u8 t.kind, .str t.text, .int .i64 t.pos] ++ cellsT l := by
  simp [cellsT, Tok.flat_enc]
theorem cellsT_len : ∀ l : List Tok, (cellsT l).length = l.length * 3
  | [] => rfl
  | t :: l => by rw [cellsT_cons, List.length_append, cellsT_len l]; simp; omega
theorem rowT_lend {σ : AS} {r : Nat} {L : List Tok} (hb : σ.box r = some (cellsT L)) : Lend G σ (.bs r L.length 3 43) (rowOf Tok.enc L) := by
  have h := Lend.row (G := G) (σ := σ) (b := r) (s := 3) (E := 43) (cs := cellsT L) (ds := cellsT L) hb (by rw [List.take_length]; exact Lends.ids _) (Nat.le_refl _) (xs := L.map Tok.enc) (sp := []) (by
    rw [List.append_nil]; rfl) (by omega) (fun e he => by
    rw [List.append_nil] at he
    obtain ⟨x, _, rfl⟩ := List.mem_map.1 he
    exact ⟨x.len_flat, x.isv_enc, x.ones⟩)
  rw [List.length_map] at h
  exact h
end
set_option maxRecDepth 20000
section
variable {G : Nat → AV}
theorem tokens_made (hg : GlobS G) {s : List UInt8} (hs : s.length ≤ 1000000000) {l : List Tok} (h : scanT s = .ok l) (σ : AS) : Tri Tryz.prog G 6 [.str s] σ fun r σ' => ∃ b, r = .tup [.bs b l.length 3 43, .agg [.int .i64 0, .int .i64 0]] ∧ σ.le σ' ∧ σ.box b = none ∧ σ.tip b = none ∧ σ'.box b = some (cellsT l) := by
  have h1 := tokens_tri hg s hs σ
  rw [h] at h1
  exact h1
end
set_option maxRecDepth 20000
section
open Go Go.Av Go.RowKit
def tbCloneM := And.intro (And.intro @tf3 @tf9) (And.intro @tf33 @tf76)
variable {G : Nat → AV}
theorem putRow {K : Ctx} {σ : AS} {w w' : World} (h : Rel G K σ w) (hb : Below w.heap.size w w') {g cap s : Nat} {E : TypeId} {cur : Array Value} (hg : w.heap.size ≤ g) (hc : w'.heap[g]? = some (.cells cur E (0, 0))) (hsz : cur.size = cap * s) (hml : cap ≤ maxLen) (cs : List AV) (hl : cs.length ≤ cur.size) (h1 : ∀ a, a ∈ cs → one a = true) (hv : ∀ j (hj : j < cs.length), VR K cs[j] (cur.getD j Go.undef)) :
    ∃ K', K.le K' ∧ Rel G K' (σ.setBox g cs) w' ∧ K'.row g = some (cap, s, E) := by
  have h' := h.grown hb
  have hne : ∀ i x, K.row i = some x → i ≠ g := fun i x hi e => by
    obtain ⟨c1, c2, c3⟩ := x
    have := h.row_lt hi; omega
  have hle : K.le { K with row := fun i => if i = g then some (cap, s, E) else K.row i } := ⟨fun _ _ _ x => x, fun i x hi => by show (if i = g then _ else _) = _; rw [if_neg (hne i x hi)]; exact hi, rfl, rfl⟩
  refine ⟨_, hle, ⟨h'.imm, fun i cap' s' E' hi => ?_, fun i ds hi => ?_, fun i n s' hi => ?_, fun i E' n hi => ?_, fun q => (h'.glob q).mono hle, h'.below, h'.bs⟩, if_pos rfl⟩
  · by_cases e : i = g
    · subst e
      have hi' : (if i = i then some (cap, s, E) else K.row i) = some (cap', s', E') := hi
      rw [if_pos rfl] at hi'
      simp only [Option.some.injEq, Prod.mk.injEq] at hi'
      obtain ⟨rfl, rfl, rfl⟩ := hi'
      exact ⟨cur, (0, 0), hc, hsz, hml, fun _ => .inl rfl⟩
    · have hi' : (if i = g then some (cap, s, E) else K.row i) = some (cap', s', E') := hi
      rw [if_neg e] at hi'
      exact h'.row i cap' s' E' hi'
  · by_cases e : i = g
    · subst e
      have hi' : (if i = i then some cs else σ.box i) = some ds := hi
      rw [if_pos rfl] at hi'
      simp only [Option.some.injEq] at hi'
      subst hi'
      exact ⟨Nat.le_trans h.bs hg, (h.fresh hg).2.1, trivial, fun o => h.imm_none hg o, h1, cur, E, hc, hl, fun j hj => (hv j hj).mono hle⟩
    · have hi' : (if i = g then some cs else σ.box i) = some ds := hi
      rw [if_neg e] at hi'
      obtain ⟨g1, g2, g3, g4, g5, c, F, q1, q2, q3⟩ := h'.box i ds hi'
      exact ⟨g1, g2, g3, g4, g5, c, F, q1, q2, fun j hj => (q3 j hj).mono hle⟩
  · obtain ⟨g1, cap', E', g2, g3, g4⟩ := h'.tip i n s' hi
    exact ⟨g1, cap', E', hle.row _ _ g2, g3, g4⟩
  · exact tyOK.mono hle (h'.ty i E' n hi)
theorem texts_cells {K : Ctx} {L : List (List UInt8)} {v : Value} (h : VR K (texts L) v) (hL : L ≠ []) : ∃ b off cap, v = .slice (some ⟨b, off, none⟩) L.length cap ∧ ∀ j, j < L.length → K.imm b (off + j) = some (.string ⟨⟨L.getD j []⟩⟩) := by
  unfold texts at h
  generalize hx : L.map AV.str = xs at h
  have hlen : xs.length = L.length := by rw [← hx, List.length_map]
  cases h with
  | sl g _ _ sz b off cap f hsz hcap hml himm hv hg =>
    refine ⟨b, off, cap, by rw [hlen], fun j hj => ?_⟩
    have e : (xs ++ ([] : List AV)).flatMap flat = xs := by
      rw [List.append_nil, ← hx]
      clear himm hv hsz hcap hg hx hlen hj hL
      induction L with
      | nil => rfl
      | cons x l ih => rw [List.map_cons, List.flatMap_cons, ih]; rfl
    have h1 := himm j (by rw [e, hlen]; exact hj)
    have h2 := hv j (by rw [e, hlen]; exact hj)
    simp only [e] at h2
    subst hx
    rw [List.getElem_map, VR.str_iff] at h2
    rw [h1, h2, List.getD_eq_getElem?_getD, List.getElem?_eq_getElem hj]
    rfl
  | sl0 a => exact absurd (by simpa using hx) hL
theorem cloneM_tri (L : List (List UInt8)) (h0 : L ≠ []) (hl : L.length ≤ 1000000) (σ : AS) : Tri Tryz.prog G 26 [texts L] σ (MadeRow L.length 1 9 (L.map AV.str) σ) := by
  refine ⟨by kernel_rfl, fun K w vals hr hv => ?_⟩
  match vals, hv with
  | [v], ⟨hv, _⟩ =>
    obtain ⟨b, off, cap, rfl, hi⟩ := texts_cells hv h0
    have hz : (L.map fun s => (⟨⟨s⟩⟩ : ByteArray)).length = L.length := by simp
    refine (Tryz.slices_Clone_string b off L.length cap (L.map fun s => (⟨⟨s⟩⟩ : ByteArray)) w (by simp) (by omega) (fun j hj => ?_)).mono fun e w' ⟨v', he, hown, hnn, hbel⟩ => ?_
    · rw [List.length_map] at hj
      have := hr.imm _ _ _ (hi j hj)
      rw [this]
      simp [List.getD_eq_getElem?_getD, List.getElem?_eq_getElem hj]
    · obtain ⟨hxl, ⟨hz0, _⟩ | ⟨g, cap', cur, rfl, hg, hcur, hnc, hcm, hcs, htk⟩⟩ := hown
      · exact absurd hz0 hnn
      · obtain ⟨K', hle, hrel, hrow⟩ := putRow hr hbel hg hcur hcs hcm (L.map AV.str) (by rw [List.length_map]; omega) (fun a ha => by
          obtain ⟨x, _, rfl⟩ := List.mem_map.1 ha; rfl) (fun j hj => by
          rw [List.length_map] at hj
          rw [List.getElem_map]
          have h2 : (cur.toList.take (L.length * 1))[j]? = some (.string ⟨⟨L[j]⟩⟩) := by
            rw [htk, List.getElem?_map, List.getElem?_take_of_lt (by omega), List.getElem?_map, List.getElem?_eq_getElem hj]; rfl
          rw [List.getElem?_take_of_lt (by omega)] at h2
          have h3 : cur.getD j Go.undef = .string ⟨⟨L[j]⟩⟩ := by
            rw [Array.getD_eq_getD_getElem?, ← Array.getElem?_toList, h2]; rfl
          rw [h3]
          exact .str _)
        have hfr := hr.fresh hg
        exact ⟨_, _, _, K', he, ⟨g, rfl, by simp [AS.setBox], (AS.le.refl σ).setBox hfr.1 _, hfr.1, hfr.2.1⟩, .bs _ _ 1 cap' _ hrow hnc hcm, hrel, hle⟩
theorem wordsM_tri (hg : GlobS G) (σ : AS) : Tri Tryz.prog G 11 [] σ (MadeRow 19 1 9 (scanWords.map AV.str) σ) := by
  have hc := fun σ => cloneM_tri (G := G) scanWords (by decide) (by decide) σ
  have hgw := hg.words
  have hsl := slice_words (g := .none)
  have h19 : scanWords.length = 19 := rfl
  rw [h19] at hc
  generalize scanWords.map AV.str = LL at *
  generalize texts scanWords = W at *
  refine Tri.of_awp mixed Tryz.func11 rfl (by kernel_rfl) (by kernel_rfl) (by simp [Tryz.ntmps11]) Tryz.results11 ?_
  repeat' (first | refine xs ?_ ?_ <;> intros | ((first | refine xh ?_ | refine xi ?_); intro bx hbx; (try simp only [fb] at hbx)) | ((refine Tri.mono (hc _) ?_; rintro r s1 ⟨b, rfl, x1, le1, n1, nt1⟩)) | refine xj ?_ | refine cv_plain ?_ | ((with_reducible refine And.intro ?_ ?_); omega) | refine bo_buildSlice (d' := ⟨⟩) ?_ | refine xk (by kernel_rfl) ?_ | refine xf ?_ (by repeat' first | exact lr _ | assumption | refine ls ?_ ?_ | refine lt ?_ ?_ | simp only [*]; done | simp only [fb, *, not_false_eq_true, and_self]; done | exact lf ‹_› (by simp only [*])) | refine finish_two ?_ (by repeat' first | exact lr _ | assumption | refine ls ?_ ?_ | refine lt ?_ ?_ | simp only [*]; done | simp only [fb, *, not_false_eq_true, and_self]; done | exact lf ‹_› (by simp only [*])) | simp -dsimp only [↓bp, bq, br, seval, tbCloneM, *] | refine cv_any ?_)
  all_goals exact finishW_some _ (AS.le.refl _) ⟨_, rfl, x1, le1, n1, nt1⟩
end
set_option maxRecDepth 100000
section
theorem tf31 : tk Tryz.prog 31 = some (false, 1) ∧ sk Tryz.prog 31 = .sl 23 ∧ (Tryz.prog.underlying 31).isSome = true ∧ el Tryz.prog 31 = some 23 ∧ zc Tryz.prog 31 = some [.nil] ∧ by_ Tryz.prog 31 = some 24 ∧ aelt Tryz.prog 31 = some (23, 1, 24) := ⟨by kernel_rfl, by kernel_rfl, by kernel_rfl, by kernel_rfl, by kernel_rfl, by kernel_rfl, by kernel_rfl⟩
theorem tf35 : tk Tryz.prog 35 = some (false, 1) ∧ sk Tryz.prog 35 = .sl 33 ∧ (Tryz.prog.underlying 35).isSome = true ∧ el Tryz.prog 35 = some 33 ∧ zc Tryz.prog 35 = some [.nil] ∧ by_ Tryz.prog 35 = some 24 ∧ aelt Tryz.prog 35 = some (33, 1, 24) := ⟨by kernel_rfl, by kernel_rfl, by kernel_rfl, by kernel_rfl, by kernel_rfl, by kernel_rfl, by kernel_rfl⟩
theorem tf52 : tk Tryz.prog 52 = some (false, 1) ∧ sk Tryz.prog 52 = .ptr 72 ∧ (Tryz.prog.underlying 52).isSome = true ∧ el Tryz.prog 52 = none ∧ zc Tryz.prog 52 = some [.nilptr] ∧ by_ Tryz.prog 52 = some 8 := ⟨by kernel_rfl, by kernel_rfl, by kernel_rfl, by kernel_rfl, by kernel_rfl, by kernel_rfl⟩
theorem tf53 : tk Tryz.prog 53 = some (false, 1) ∧ sk Tryz.prog 53 = .sl 140 ∧ (Tryz.prog.underlying 53).isSome = true ∧ el Tryz.prog 53 = some 140 ∧ zc Tryz.prog 53 = some [.nil] ∧ by_ Tryz.prog 53 = some 24 ∧ aelt Tryz.prog 53 = some (140, 1, 24) := ⟨by kernel_rfl, by kernel_rfl, by kernel_rfl, by kernel_rfl, by kernel_rfl, by kernel_rfl, by kernel_rfl⟩
theorem tf54 : tk Tryz.prog 54 = some (false, 1) ∧ sk Tryz.prog 54 = .sl 142 ∧ (Tryz.prog.underlying 54).isSome = true ∧ el Tryz.prog 54 = some 142 ∧ zc Tryz.prog 54 = some [.nil] ∧ by_ Tryz.prog 54 = some 24 ∧ aelt Tryz.prog 54 = some (142, 1, 24) := ⟨by kernel_rfl, by kernel_rfl, by kernel_rfl, by kernel_rfl, by kernel_rfl, by kernel_rfl, by kernel_rfl⟩
theorem tf55 : tk Tryz.prog 55 = some (false, 1) ∧ sk Tryz.prog 55 = .sl 143 ∧ (Tryz.prog.underlying 55).isSome = true ∧ el Tryz.prog 55 = some 143 ∧ zc Tryz.prog 55 = some [.nil] ∧ by_ Tryz.prog 55 = some 24 ∧ aelt Tryz.prog 55 = some (143, 1, 24) := ⟨by kernel_rfl, by kernel_rfl, by kernel_rfl, by kernel_rfl, by kernel_rfl, by kernel_rfl, by kernel_rfl⟩
theorem tf56 : tk Tryz.prog 56 = some (false, 1) ∧ sk Tryz.prog 56 = .sl 144 ∧ (Tryz.prog.underlying 56).isSome = true ∧ el Tryz.prog 56 = some 144 ∧ zc Tryz.prog 56 = some [.nil] ∧ by_ Tryz.prog 56 = some 24 ∧ aelt Tryz.prog 56 = some (144, 1, 24) := ⟨by kernel_rfl, by kernel_rfl, by kernel_rfl, by kernel_rfl, by kernel_rfl, by kernel_rfl, by kernel_rfl⟩
theorem tf57 : tk Tryz.prog 57 = some (false, 1) ∧ sk Tryz.prog 57 = .sl 37 ∧ (Tryz.prog.underlying 57).isSome = true ∧ el Tryz.prog 57 = some 37 ∧ zc Tryz.prog 57 = some [.nil] ∧ by_ Tryz.prog 57 = some 24 ∧ aelt Tryz.prog 57 = some (37, 1, 24) := ⟨by kernel_rfl, by kernel_rfl, by kernel_rfl, by kernel_rfl, by kernel_rfl, by kernel_rfl, by kernel_rfl⟩
theorem tf58 : tk Tryz.prog 58 = some (false, 1) ∧ sk Tryz.prog 58 = .sl 147 ∧ (Tryz.prog.underlying 58).isSome = true ∧ el Tryz.prog 58 = some 147 ∧ zc Tryz.prog 58 = some [.nil] ∧ by_ Tryz.prog 58 = some 24 ∧ aelt Tryz.prog 58 = some (147, 1, 24) := ⟨by kernel_rfl, by kernel_rfl, by kernel_rfl, by kernel_rfl, by kernel_rfl, by kernel_rfl, by kernel_rfl⟩
theorem tf60 : tk Tryz.prog 60 = some (false, 1) ∧ sk Tryz.prog 60 = .sl 156 ∧ (Tryz.prog.underlying 60).isSome = true ∧ el Tryz.prog 60 = some 156 ∧ zc Tryz.prog 60 = some [.nil] ∧ by_ Tryz.prog 60 = some 24 ∧ aelt Tryz.prog 60 = some (156, 1, 24) := ⟨by kernel_rfl, by kernel_rfl, by kernel_rfl, by kernel_rfl, by kernel_rfl, by kernel_rfl, by kernel_rfl⟩
theorem tf61 : tk Tryz.prog 61 = some (false, 1) ∧ sk Tryz.prog 61 = .sl 162 ∧ (Tryz.prog.underlying 61).isSome = true ∧ el Tryz.prog 61 = some 162 ∧ zc Tryz.prog 61 = some [.nil] ∧ by_ Tryz.prog 61 = some 24 ∧ aelt Tryz.prog 61 = some (162, 1, 24) := ⟨by kernel_rfl, by kernel_rfl, by kernel_rfl, by kernel_rfl, by kernel_rfl, by kernel_rfl, by kernel_rfl⟩
theorem tf62 : tk Tryz.prog 62 = some (false, 1) ∧ sk Tryz.prog 62 = .sl 168 ∧ (Tryz.prog.underlying 62).isSome = true ∧ el Tryz.prog 62 = some 168 ∧ zc Tryz.prog 62 = some [.nil] ∧ by_ Tryz.prog 62 = some 24 ∧ aelt Tryz.prog 62 = some (168, 1, 24) := ⟨by kernel_rfl, by kernel_rfl, by kernel_rfl, by kernel_rfl, by kernel_rfl, by kernel_rfl, by kernel_rfl⟩
theorem tf63 : tk Tryz.prog 63 = some (false, 1) ∧ sk Tryz.prog 63 = .sl 173 ∧ (Tryz.prog.underlying 63).isSome = true ∧ el Tryz.prog 63 = some 173 ∧ zc Tryz.prog 63 = some [.nil] ∧ by_ Tryz.prog 63 = some 24 ∧ aelt Tryz.prog 63 = some (173, 1, 24) := ⟨by kernel_rfl, by kernel_rfl, by kernel_rfl, by kernel_rfl, by kernel_rfl, by kernel_rfl, by kernel_rfl⟩
theorem tf64 : tk Tryz.prog 64 = some (false, 1) ∧ sk Tryz.prog 64 = .sl 178 ∧ (Tryz.prog.underlying 64).isSome = true ∧ el Tryz.prog 64 = some 178 ∧ zc Tryz.prog 64 = some [.nil] ∧ by_ Tryz.prog 64 = some 24 ∧ aelt Tryz.prog 64 = some (178, 1, 24) := ⟨by kernel_rfl, by kernel_rfl, by kernel_rfl, by kernel_rfl, by kernel_rfl, by kernel_rfl, by kernel_rfl⟩
theorem tf65 : tk Tryz.prog 65 = some (false, 1) ∧ sk Tryz.prog 65 = .sl 184 ∧ (Tryz.prog.underlying 65).isSome = true ∧ el Tryz.prog 65 = some 184 ∧ zc Tryz.prog 65 = some [.nil] ∧ by_ Tryz.prog 65 = some 24 ∧ aelt Tryz.prog 65 = some (184, 1, 24) := ⟨by kernel_rfl, by kernel_rfl, by kernel_rfl, by kernel_rfl, by kernel_rfl, by kernel_rfl, by kernel_rfl⟩
theorem tf66 : tk Tryz.prog 66 = some (false, 1) ∧ sk Tryz.prog 66 = .sl 188 ∧ (Tryz.prog.underlying 66).isSome = true ∧ el Tryz.prog 66 = some 188 ∧ zc Tryz.prog 66 = some [.nil] ∧ by_ Tryz.prog 66 = some 24 ∧ aelt Tryz.prog 66 = some (188, 1, 24) := ⟨by kernel_rfl, by kernel_rfl, by kernel_rfl, by kernel_rfl, by kernel_rfl, by kernel_rfl, by kernel_rfl⟩
theorem tf67 : tk Tryz.prog 67 = some (false, 1) ∧ sk Tryz.prog 67 = .sl 193 ∧ (Tryz.prog.underlying 67).isSome = true ∧ el Tryz.prog 67 = some 193 ∧ zc Tryz.prog 67 = some [.nil] ∧ by_ Tryz.prog 67 = some 24 ∧ aelt Tryz.prog 67 = some (193, 1, 24) := ⟨by kernel_rfl, by kernel_rfl, by kernel_rfl, by kernel_rfl, by kernel_rfl, by kernel_rfl, by kernel_rfl⟩
theorem tf68 : tk Tryz.prog 68 = some (false, 1) ∧ sk Tryz.prog 68 = .sl 198 ∧ (Tryz.prog.underlying 68).isSome = true ∧ el Tryz.prog 68 = some 198 ∧ zc Tryz.prog 68 = some [.nil] ∧ by_ Tryz.prog 68 = some 24 ∧ aelt Tryz.prog 68 = some (198, 1, 24) := ⟨by kernel_rfl, by kernel_rfl, by kernel_rfl, by kernel_rfl, by kernel_rfl, by kernel_rfl, by kernel_rfl⟩
theorem tf69 : tk Tryz.prog 69 = some (false, 1) ∧ sk Tryz.prog 69 = .sl 203 ∧ (Tryz.prog.underlying 69).isSome = true ∧ el Tryz.prog 69 = some 203 ∧ zc Tryz.prog 69 = some [.nil] ∧ by_ Tryz.prog 69 = some 24 ∧ aelt Tryz.prog 69 = some (203, 1, 24) := ⟨by kernel_rfl, by kernel_rfl, by kernel_rfl, by kernel_rfl, by kernel_rfl, by kernel_rfl, by kernel_rfl⟩
theorem tf70 : tk Tryz.prog 70 = some (false, 1) ∧ sk Tryz.prog 70 = .sl 207 ∧ (Tryz.prog.underlying 70).isSome = true ∧ el Tryz.prog 70 = some 207 ∧ zc Tryz.prog 70 = some [.nil] ∧ by_ Tryz.prog 70 = some 24 ∧ aelt Tryz.prog 70 = some (207, 1, 24) := ⟨by kernel_rfl, by kernel_rfl, by kernel_rfl, by kernel_rfl, by kernel_rfl, by kernel_rfl, by kernel_rfl⟩
theorem tf72 : tk Tryz.prog 72 = some (true, 20) ∧ sk Tryz.prog 72 = .st ∧ (Tryz.prog.underlying 72).isSome = true ∧ el Tryz.prog 72 = none ∧ zc Tryz.prog 72 = some [.nil, .nil, .nil, .nil, .nil, .nil, .nil, .nil, .nil, .nil, .nil, .nil, .nil, .nil, .nil, .nil, .nil, .nil, .nil, .nil] ∧ by_ Tryz.prog 72 = some 480 ∧ places Tryz.prog 72 = some [(0, 1), (1, 1), (2, 1), (3, 1), (4, 1), (5, 1), (6, 1), (7, 1), (8, 1), (9, 1), (10, 1), (11, 1), (12, 1), (13, 1), (14, 1), (15, 1), (16, 1), (17, 1), (18, 1), (19, 1)] ∧ fld Tryz.prog 72 0 = some (0, false, 1) ∧ fld Tryz.prog 72 1 = some (1, false, 1) ∧ fld Tryz.prog 72 2 = some (2, false, 1) ∧ fld Tryz.prog 72 3 = some (3, false, 1) ∧ fld Tryz.prog 72 4 = some (4, false, 1) ∧ fld Tryz.prog 72 5 = some (5, false, 1) ∧ fld Tryz.prog 72 6 = some (6, false, 1) ∧ fld Tryz.prog 72 7 = some (7, false, 1) ∧ fld Tryz.prog 72 8 = some (8, false, 1) ∧ fld Tryz.prog 72 9 = some (9, false, 1) ∧ fld Tryz.prog 72 10 = some (10, false, 1) ∧ fld Tryz.prog 72 11 = some (11, false, 1) ∧ fld Tryz.prog 72 12 = some (12, false, 1) ∧ fld Tryz.prog 72 13 = some (13, false, 1) ∧ fld Tryz.prog 72 14 = some (14, false, 1) ∧ fld Tryz.prog 72 15 = some (15, false, 1) ∧ fld Tryz.prog 72 16 = some (16, false, 1) ∧ fld Tryz.prog 72 17 = some (17, false, 1) ∧ fld Tryz.prog 72 18 = some (18, false, 1) ∧ fld Tryz.prog 72 19 = some (19, false, 1) := ⟨by kernel_rfl, by kernel_rfl, by kernel_rfl, by kernel_rfl, by kernel_rfl, by kernel_rfl, by kernel_rfl, by kernel_rfl, by kernel_rfl, by kernel_rfl, by kernel_rfl, by kernel_rfl, by kernel_rfl, by kernel_rfl, by kernel_rfl, by kernel_rfl, by kernel_rfl, by kernel_rfl, by kernel_rfl, by kernel_rfl, by kernel_rfl, by kernel_rfl, by kernel_rfl, by kernel_rfl, by kernel_rfl, by kernel_rfl, by kernel_rfl⟩
end
end Go.Proofs.YtldmniappliepaaGreatDoor
