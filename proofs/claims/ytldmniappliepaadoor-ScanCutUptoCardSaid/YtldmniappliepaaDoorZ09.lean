/- ScanCut on abstract values: where both are told. -/
import Derived.Test.YtldmniappliepaaDoorZ08
import Derived.Test.YtldmniappliepaaDoorZ07
import Derived.Test.YtldmniappliepaaDoorRows
set_option linter.unusedVariables false
set_option linter.unusedSimpArgs false
set_option maxRecDepth 20000
set_option linter.defProp false
namespace Go.Proofs.YtldmniappliepaaDoor
open Go Go.Av
section
def tbLawScanCut2 := And.intro (And.intro (And.intro (And.intro @tf3 @tf4) (And.intro @tf5 @tf9)) (And.intro (And.intro @tf39 @tf44) (And.intro @tf31 @tf29))) (And.intro (And.intro (And.intro @tf24 @tf46) (And.intro @tf52 @tf26)) (And.intro (And.intro @tf23 @isv_rowOf) (And.intro @flat_rowOf (And.intro @len_rowOf @ix_rowOf))))
variable {G : Nat → AV}
theorem tokens_made (hg : GlobS G) {s : List UInt8} (hs : s.length ≤ 1000000000) {l : List Tok} (h : scanT s = .ok l) (σ : AS) : Tri Tryd.prog G 6 [.str s] σ fun r σ' => ∃ b, r = .tup [.bs b l.length 3 31, .agg [.int .i64 0, .int .i64 0]] ∧ σ.le σ' ∧ σ.box b = none ∧ σ.tip b = none ∧ σ'.box b = some (cellsT l) := by
  have h1 := tokens_tri hg s hs σ
  rw [h] at h1
  exact h1
theorem cellsT_dropLast (x : List Tok) (h : 0 < x.length) : (cellsT x).take ((x.length - 1) * 3) = cellsT x.dropLast := by
  have hne : x ≠ [] := fun e => by rw [e] at h; simp at h
  obtain ⟨d, g, rfl⟩ : ∃ d g, x = d ++ [g] := ⟨_, _, (List.dropLast_concat_getLast hne).symm⟩
  rw [List.dropLast_concat, cellsT_append, List.length_append, List.length_singleton, Nat.add_sub_cancel, ← cellsT_len d, List.take_left]
set_option maxHeartbeats 4000000 in
theorem cut_ok (hg : GlobS G) (w : Pure Tryd.prog G 5 [] (.bool true)) (a b : List UInt8) (h : a.length + b.length ≤ 20000) (x : List Tok) (hx : scanT a = .ok x) (y : List Tok) (hy : scanT b = .ok y) : Pure Tryd.prog G 4 [.str a, .str b] (.bool true) := by
  have h1 : ((20000 : Int) < ((a.length + b.length : Nat) : Int)) = False := eq_false (by omega)
  have hw : IntKind.i64.wrap ((a.length : Int) + (b.length : Int)) = ((a.length + b.length : Nat) : Int) := by rw [wrap_nat (by omega) (by omega)]; omega
  have m1 : (a.length + 1 ≤ maxLen) = True := eq_true (by unfold maxLen; omega)
  have m2 : ((a ++ [10]).length + b.length ≤ maxLen) = True := eq_true (by unfold maxLen; simp; omega)
  have hcut := scanT_cut a b h
  rw [show a ++ 10 :: b = a ++ [10] ++ b by simp, hx, hy] at hcut
  simp only at hcut
  have t1 := fun σ => tokens_made hg (s := a) (by omega) hx σ
  have t2 := fun σ => tokens_made hg (s := b) (by omega) hy σ
  have t3 := tokens_ok hg (by simp; omega) hcut
  have lx : x.length ≤ 20001 ∧ 0 < x.length := by
    obtain ⟨_, l0, rfl, hl0⟩ := scanT_ok hx
    have := lexAt_len _ a (Nat.le_refl _) 0 l0 hl0
    rw [List.length_append, List.length_singleton]; omega
  have ly : y.length ≤ 20001 := by
    obtain ⟨_, l0, rfl, hl0⟩ := scanT_ok hy
    have := lexAt_len _ b (Nat.le_refl _) 0 l0 hl0
    rw [List.length_append, List.length_singleton]; omega
  have py : ∀ t, t ∈ y → t.pos ≤ 20000 := fun t ht => by have := (scan_back hy).1.le t ht; omega
  have ha : a.length ≤ 20000 := by omega
  have hsame := sameToks_pure G (x.dropLast ++ y.map (Tok.up (a.length + 1))) (x.dropLast ++ y.map (Tok.up (a.length + 1))) (by simp; omega) (by simp; omega)
  rw [decide_eq_true rfl] at hsame
  generalize hZ : x.dropLast ++ y.map (Tok.up (a.length + 1)) = Z at *
  clear hcut hx hy h hg
  intro σ
  refine Tri.back (Q := fun r => r = .bool true) ?_
  refine Tri.of_awp mixed Tryd.func4 rfl (by kernel_rfl) (by kernel_rfl) (by simp [Tryd.ntmps4]) Tryd.results4 ?_
  repeat' (first | refine xs ?_ ?_ <;> intros | ((first | refine xh ?_ | refine xi ?_); intro bx hbx; (try simp only [fb] at hbx)) | refine Pure.use (w) ?_ | refine Pure.head (w) ?_ | ((refine Tri.mono (t1 _) ?_; rintro r s1 ⟨r1, rfl, le1, n1, nt1, x1⟩)) | refine xj ?_ | ((with_reducible refine And.intro ?_ ?_); omega) | refine bo_buildSlice (d' := ⟨⟩) ?_ | refine xk (by kernel_rfl) ?_ | refine xf ?_ (by repeat' first | exact lr _ | assumption | refine ls ?_ ?_ | refine lt ?_ ?_ | simp only [*]; done | simp only [fb, *, not_false_eq_true, and_self]; done | exact lf ‹_› (by simp only [*])) | refine finish_two ?_ (by repeat' first | exact lr _ | assumption | refine ls ?_ ?_ | refine lt ?_ ?_ | simp only [*]; done | simp only [fb, *, not_false_eq_true, and_self]; done | exact lf ‹_› (by simp only [*])) | simp -dsimp only [↓bp, bq, br, seval, tbLawScanCut2, *])
  revert hbx; revert bx; intro b6 h6
  refine Tri.mono (t2 _) ?_
  rintro r s2 ⟨r2, rfl, le2, n2, nt2, x2⟩
  have ne1 := fresh_ne x1 h6
  have hx1 : s2.box r1 = some (cellsT x) := le2.box _ _ (by simp only [AS.setBox, if_neg ne1.1]; exact x1)
  have hb6 : s2.box b6 = some [.int .i64 0, .int .i64 0] := le2.box _ _ (by simp [AS.setBox])
  have ne12 : ¬ r1 = r2 := fun e => by
    have : (s1.setBox b6 [.int .i64 0, .int .i64 0]).box r1 = some (cellsT x) := by simp only [AS.setBox, if_neg ne1.1]; exact x1
    rw [e, n2] at this; cases this
  have le1' : σ.le (s1.setBox b6 [.int .i64 0, .int .i64 0]) := le1.setBox (le1.fresh h6).1 _
  have n2' := le1'.noBox n2
  have hle := le1'.trans le2
  have f6 := le1.fresh h6
  clear t1 t2 le1 le2 n2 nt2 nt1 x1 h6 le1' s1
  repeat' (first | refine xs ?_ ?_ <;> intros | ((first | refine xh ?_ | refine xi ?_); intro bx hbx; (try simp only [fb] at hbx); try (have nn := fresh_ne (c := bx) hx1 (by simp only [hbx])); try (have nn := fresh_ne (c := bx) x2 (by simp only [hbx])); try (have nn := fresh_ne (c := bx) hb6 (by simp only [hbx]))) | refine Pure.use (t3) ?_ | refine Pure.head (t3) ?_ | refine xj ?_ | ((with_reducible refine And.intro ?_ ?_); omega) | refine bo_buildSlice (d' := ⟨⟩) ?_ | refine xk (by kernel_rfl) ?_ | refine xf ?_ (by repeat' first | exact lr _ | assumption | refine ls ?_ ?_ | refine lt ?_ ?_ | simp only [*]; done | simp only [fb, *, not_false_eq_true, and_self]; done | exact lf ‹_› (by simp only [*])) | refine finish_two ?_ (by repeat' first | exact lr _ | assumption | refine ls ?_ ?_ | refine lt ?_ ?_ | simp only [*]; done | simp only [fb, *, not_false_eq_true, and_self]; done | exact lf ‹_› (by simp only [*])) | simp -dsimp only [↓bp, bq, br, seval, tbLawScanCut2, *])
  rename_i b8 h8 q1 q2 q3 q4 q5
  obtain ⟨S, hS⟩ : ∃ S, S = (s2.setBox b8 [.int .i64 0, .int .i64 0]).setBox bx [.int .i64 0, .int .i64 0] := ⟨_, rfl⟩
  have gx : S.box r1 = some (cellsT x) := by rw [hS]; simp only [AS.setBox, if_neg q1.1, if_neg q4.1]; exact hx1
  have gy : S.box r2 = some (cellsT y) := by rw [hS]; simp only [AS.setBox, if_neg q2.1, if_neg q5.1]; exact x2
  have g6 : S.box b6 = some [.int .i64 0, .int .i64 0] := by rw [hS]; simp only [AS.setBox, if_neg q3.1, if_neg nn.1]; exact hb6
  have g8 : S.box b8 = some [.int .i64 0, .int .i64 0] := by rw [hS]; simp only [AS.setBox, if_neg hbx.2.2, if_true]
  have g10 : S.box bx = some [.int .i64 0, .int .i64 0] := by rw [hS]; simp only [AS.setBox, if_true]
  have hleS : σ.le S := by rw [hS]; exact (hle.setBox (hle.fresh h8).1 _).setBox (hle.fresh hbx.1).1 _
  rw [← hS]
  have ne6 : ¬ b6 = r2 := fun e => by rw [e] at q3; rw [e, gy] at g6; simp only [Option.some.injEq] at g6; have := congrArg List.length g6; rw [cellsT_len] at this; simp at this; omega
  clear hS hx1 x2 hb6 q1 q3 q4 nn h8 hle t3 w
  have ne8 : ¬ b8 = r2 := q2.2
  have ne10 : ¬ bx = r2 := q5.2
  clear q2 q5 hbx
  refine loop_intro (fun n e σ' => ∃ i : Nat, i ≤ y.length ∧ n = y.length - i ∧ e 11 = .int .i64 i ∧ σ' = S.setBox r2 (cellsT (midT (a.length + 1) y i))) y.length
    ⟨0, by omega, by omega, by first | (simp -dsimp only [↓bp, bq, br, seval, tbLawScanCut2]; done) | (simp -dsimp only [↓bp, bq, br, seval, tbLawScanCut2]; try rfl), by rw [midT_zero, setBox_id gy]⟩ ?_
  rintro n v σ' ⟨i, hi, rfl, h11, rfl⟩
  simp -dsimp only [↓bp, bq, br, seval, tbLawScanCut2] at h11
  by_cases hlt : (i : Int) < y.length
  · obtain ⟨t, ht⟩ : ∃ t, y[i]? = some t := ⟨_, List.getElem?_eq_getElem (by omega)⟩
    have hm := midT_get (a.length + 1) y i t ht
    have hpt := py t (List.mem_of_getElem? ht)
    have hpos := cellsT_pos _ i t hm
    have hset := cellsT_set _ i t (t.pos + (a.length + 1)) hm
    rw [midT_next (a.length + 1) y i t ht] at hset
    have hlen : (i * 3 + 2 + 1 ≤ (cellsT (midT (a.length + 1) y i)).length) = True := eq_true (by rw [cellsT_len, midT_len]; omega)
    have hw1 : IntKind.i64.wrap ((i : Int) + 1) = ((i + 1 : Nat) : Int) := by rw [wrap_nat (by omega) (by omega)]; rfl
    have hw2 : IntKind.i64.wrap ((t.pos : Int) + (a.length : Int)) = ((t.pos + a.length : Nat) : Int) := by rw [wrap_nat (by omega) (by omega)]; omega
    have hw3 : IntKind.i64.wrap (((t.pos + a.length : Nat) : Int) + 1) = ((t.pos + (a.length + 1) : Nat) : Int) := by rw [wrap_nat (by omega) (by omega)]; omega
    have hlt' := eq_true hlt
    have h0 : (0 : Int) ≤ i := by omega
    generalize cellsT (midT (a.length + 1) y i) = C at *
    generalize hC' : cellsT (midT (a.length + 1) y (i + 1)) = C' at *
    clear hlt hm ht hpt py lx ly hsame hZ
    repeat' (first | refine xs ?_ ?_ <;> intros | ((first | refine xh ?_ | refine xi ?_); intro bx hbx; (try simp only [fb] at hbx)) | refine xj ?_ | ((with_reducible refine And.intro ?_ ?_); omega) | refine bo_buildSlice (d' := ⟨⟩) ?_ | refine xk (by kernel_rfl) ?_ | refine xf ?_ (by repeat' first | exact lr _ | assumption | refine ls ?_ ?_ | refine lt ?_ ?_ | simp only [*]; done | simp only [fb, *, not_false_eq_true, and_self]; done | exact lf ‹_› (by simp only [*])) | refine finish_two ?_ (by repeat' first | exact lr _ | assumption | refine ls ?_ ?_ | refine lt ?_ ?_ | simp only [*]; done | simp only [fb, *, not_false_eq_true, and_self]; done | exact lf ‹_› (by simp only [*])) | simp -dsimp only [↓bp, bq, br, seval, tbLawScanCut2, *])
    all_goals (have hlt := of_eq_true hlt')
    all_goals exact ⟨y.length - (i + 1), by omega, i + 1, by omega, rfl, rfl, by rw [hC']⟩
  · have : i = y.length := by omega
    subst this
    rw [midT_all]
    have hlt' := eq_false hlt
    have hcat : (cellsT x).take ((x.length - 1) * 3) ++ cellsT (y.map (Tok.up (a.length + 1))) = cellsT Z := by
      rw [← hZ, cellsT_append]
      rw [cellsT_dropLast x lx.2]
    have hlenZ : x.length - 1 + (y.map (Tok.up (a.length + 1))).length = Z.length := by rw [← hZ, List.length_append, List.length_dropLast]
    have hlm : (y.map (Tok.up (a.length + 1))).length = y.length := by rw [List.length_map]
    have gx2 : (S.setBox r2 (cellsT (y.map (Tok.up (a.length + 1))))).box r1 = some (cellsT x) := by simp only [AS.setBox, if_neg ne12]; exact gx
    have hw1 : IntKind.i64.wrap ((x.length : Int) - 1) = ((x.length - 1 : Nat) : Int) := by rw [wrap_nat (by omega) (by omega)]; omega
    have hx1 : (x.length - 1 ≤ x.length) = True := eq_true (by omega)
    have h3 : x.length * 3 = (cellsT x).length := (cellsT_len x).symm
    have he := eqFlt 0 0 0 0 .eql
    have hYc : (cellsT (y.map (Tok.up (a.length + 1)))).length = y.length * 3 := by rw [cellsT_len, hlm]
    have hYd : ((y.map (Tok.up (a.length + 1))).map Tok.enc).flatMap flat = cellsT (y.map (Tok.up (a.length + 1))) := rfl
    generalize y.map (Tok.up (a.length + 1)) = Y at *
    clear hlt py hZ hi
    have hle2 : σ.le (S.setBox r2 (cellsT Y)) := hleS.setBox n2' _
    obtain ⟨S2, hS2⟩ : ∃ S2, S2 = S.setBox r2 (cellsT Y) := ⟨_, rfl⟩
    have k10 : S2.box bx = some [.int .i64 0, .int .i64 0] := by rw [hS2]; simp only [AS.setBox, if_neg ne10]; exact g10
    have kY : S2.box r2 = some (cellsT Y) := by rw [hS2]; simp only [AS.setBox, if_true]
    rw [← hS2] at gx2 hle2 ⊢
    clear hS2 gx gy g6 g8 g10 hleS ne6 ne8 ne10
    repeat' (first | refine xs ?_ ?_ <;> intros | ((first | refine xh ?_ | refine xi ?_); intro bx hbx; (try simp only [fb] at hbx)) | ((refine app_rowT (L := Y) (cs := cellsT x) (c := r1) (m := x.length - 1) tfT (.inr ⟨r2, y.length, 3, 31, cellsT Y, rfl, by rw [tfTE]; rfl, kY, by rw [List.length_map]; exact hlm, by rw [hYc]; exact Nat.le_refl _, by rw [List.take_of_length_le (by rw [hYc]; exact Nat.le_refl _)]; exact hYd, tok_ok⟩) gx2 (by rw [← h3]; omega) (by rw [hlm]; omega) (fun b' hb' => ?_); rw [hcat, hlenZ]; have nb : σ.box b' = none := by (rcases hb' with rfl | hf; exact n1; exact (hle2.fresh hf).1))) | ((refine Tri.mono (hsame.lend (σ := S2.setBox _ (cellsT Z)) rfl (.cons (Lend.id _) (.cons (rowT_lend (L := Z) (by simp [AS.setBox])) .nil))) ?_; rintro r s9 ⟨rfl, rfl⟩)) | refine xj ?_ | ((with_reducible refine And.intro ?_ ?_); omega) | refine bo_buildSlice (d' := ⟨⟩) ?_ | refine xk (by kernel_rfl) ?_ | refine xf ?_ (by repeat' first | exact lr _ | assumption | refine ls ?_ ?_ | refine lt ?_ ?_ | simp only [*]; done | simp only [fb, *, not_false_eq_true, and_self]; done | exact lf ‹_› (by simp only [*])) | refine finish_two ?_ (by repeat' first | exact lr _ | assumption | refine ls ?_ ?_ | refine lt ?_ ?_ | simp only [*]; done | simp only [fb, *, not_false_eq_true, and_self]; done | exact lf ‹_› (by simp only [*])) | simp -dsimp only [↓bp, bq, br, seval, tbLawScanCut2, *])
    exact finishW_some _ (AS.le.refl _) ⟨rfl, hle2.setBox nb _⟩
theorem scanCut_pure (hg : GlobS G) (a b : List UInt8) (ha : a.length ≤ 1000000000) (hb : b.length ≤ 1000000000) : Pure Tryd.prog G 4 [.str a, .str b] (.bool true) := by
  have w := sawake_pure hg
  by_cases h : 20000 < a.length + b.length
  · exact cut_long w a b h ha hb
  · have h : a.length + b.length ≤ 20000 := by omega
    cases hx : scanT a with
    | bad e p => exact cut_bad1 hg w a b h e p hx
    | ok x =>
      cases hy : scanT b with
      | bad e p => exact cut_bad2 hg w a b h x hx e p hy
      | ok y => exact cut_ok hg w a b h x hx y hy
end
set_option maxRecDepth 100000
section
open Go Go.Av Go.RowKit Go.ChangeShapes
variable {H : Type}
theorem read_str (n : Nat) (d : DataW H) (h : tyW Tryd.prog n 9 d) : ∃ s : List UInt8, avW d = .str s ∧ s.length ≤ Rows.uptoBulk d := by
  obtain ⟨s, rfl, _⟩ := tyW_str h Tryd.underlying9
  exact ⟨s, by simp [avW], by simp only [Rows.uptoBulk]; omega⟩
def SS : List TypeId := [9, 46, 52, 3]
theorem closedSS : closedT Tryd.prog SS = true := by kernel_rfl
def GvS (m : Int) : Nat → AV := fun g => if g = 0 then .rp (scanWords.map AV.str) else if g = 1 then .rp (scanSigns.map AV.str) else if g = 2 then .rp [.int .i64 m] else .raw (.pointer (some ⟨g, 0, none⟩))
theorem globGvS (m : Int) : GlobS (GvS m) := ⟨rfl, rfl, m, rfl⟩
theorem words_av : flat (avW (H := Unit) Rows.laid_pigeonhole_scan_words) = scanWords.map AV.str := by kernel_rfl
theorem signs_av : flat (avW (H := Unit) Rows.laid_pigeonhole_scan_signs) = scanSigns.map AV.str := by kernel_rfl
theorem entry_globS {W : World} {laid : List (String × DataW Unit)} (hL : laidMet Tryd.prog laid W) (h1 : ("pigeonhole/scan.words", Rows.laid_pigeonhole_scan_words) ∈ laid) (h2 : ("pigeonhole/scan.signs", Rows.laid_pigeonhole_scan_signs) ∈ laid)
    (hsh : W.ShapedOpen Tryd.prog) : ∃ m, ∀ g, VR (entryK W) (GvS m g) (.pointer (some ⟨g, 0, none⟩)) := by
  have g0 : VR (entryK W) (.rp (scanWords.map AV.str)) (.pointer (some ⟨0, 0, none⟩)) :=
    laid_glob closedSS hL (n := "pigeonhole/scan.words") h1 (g := 0) (t := 46) (by kernel_rfl) (by kernel_rfl) (by decide) words_av
  have g1 : VR (entryK W) (.rp (scanSigns.map AV.str)) (.pointer (some ⟨1, 0, none⟩)) :=
    laid_glob closedSS hL (n := "pigeonhole/scan.signs") h2 (g := 1) (t := 52) (by kernel_rfl) (by kernel_rfl) (by decide) signs_av
  have g2 : ∃ m, W.cell? ⟨2, 0, none⟩ = some (.int .i64 m) :=
    Go.Proofs.cell_of_shapedOpen_int (zero := #[.int .i64 0]) (t := 3) hsh (of_decide_eq_true (by kernel_rfl)) (by kernel_rfl) rfl (by kernel_rfl) (by kernel_rfl) Tryd.underlying3
  obtain ⟨m, g2⟩ := int_glob g2
  refine ⟨m, fun g => ?_⟩
  unfold GvS
  by_cases e0 : g = 0
  · subst e0; exact g0
  · by_cases e1 : g = 1
    · subst e1; exact g1
    · by_cases e2 : g = 2
      · subst e2; exact g2
      · rw [if_neg e0, if_neg e1, if_neg e2]; exact .raw _
end
end Go.Proofs.YtldmniappliepaaDoor
