/- ScanNumbers on abstract values. -/
import Derived.Test.YtldmniappliepaaGreatDoorY26
import Derived.Test.YtldmniappliepaaGreatDoorY21
import Derived.Test.YtldmniappliepaaGreatDoorY16
import Derived.Test.YtldmniappliepaaGreatDoorRows
set_option linter.unusedVariables false
set_option linter.unusedSimpArgs false
set_option maxRecDepth 20000
set_option linter.defProp false
namespace Go.Proofs.YtldmniappliepaaGreatDoor
open Go Go.Av
section
open Go Go.Av Go.RowKit
def tbLawScanNum := And.intro (And.intro (And.intro @tf3 (And.intro @tf4 @tf5)) (And.intro (And.intro @tf9 @tf37) (And.intro @tf33 @tf43))) (And.intro (And.intro @tf41 (And.intro @tf24 @tf23)) (And.intro (And.intro @isv_rowOf @flat_rowOf) (And.intro @len_rowOf @ix_rowOf)))
variable {G : Nat → AV}
structure GlobN (G : Nat → AV) : Prop extends GlobS G where
  space : G 1 = .tab spV
def sgText : List UInt8 := [40, 32, 41, 32, 123, 32, 125, 32, 91, 32, 93, 32, 44, 32, 59, 32, 58, 32, 45, 62, 32, 60, 45, 32, 124, 124, 32, 124, 32, 61, 32, 61, 61, 32, 47, 61, 32, 61, 58, 61, 32, 61, 47, 61, 32, 60, 32, 61, 60, 32, 62, 32, 62, 61, 32, 43, 32, 45, 32, 42, 32, 47, 32, 43, 43, 32, 45, 45, 32, 33, 32, 46]
def textsF (ws : List (List UInt8)) : AV := .sl .full (ws.map AV.str) []
theorem len_textsF {P : Program} {t : TypeId} (l : List (List UInt8)) : ablt P .len #[t] [textsF l] = if (el P t).isSome then some (.int .i64 l.length) else none := by
  simp [textsF, l_sl]
theorem ix_textsF {P : Program} {t : TypeId} {k : IntKind} (l : List (List UInt8)) (i : Nat) : aindexA P t (textsF l) (.int k (i : Int)) = ixk ((el P t).bind (tk P)) ((l[i]?).map AV.str) := by
  simp [textsF, aindexA_sl]
def L16 (c : UInt8) : List (List UInt8) := [[c], [97, c], [88, c, 121], [49, c], [46, c], [39, c, 39], [34, c, 34], [39, 92, c, 39], [34, 92, 120, 52, c, 34], [34, 92, 120, c, 52, 34], [61, c], [60, c], [37, c, 120], [45, c], [61, 58, c], [97, 46, c]]
theorem row16 (c : UInt8) : AV.sl .full [.str [c], .str [97, c], .str [88, c, 121], .str [49, c], .str [46, c], .str [39, c, 39], .str [34, c, 34], .str [39, 92, c, 39], .str [34, 92, 120, 52, c, 34], .str [34, 92, 120, c, 52, 34], .str [61, c], .str [60, c], .str [37, c, 120], .str [45, c], .str [61, 58, c], .str [97, 46, c]] [] = textsF (L16 c) := rfl
set_option maxHeartbeats 4000000 in
theorem scanNumbers_pure (hg : GlobN G) : Pure Tryz.prog G 4 [] (.bool true) := by
  have w := sawake_pure hg.toGlobS
  have hS := fun s => scanTells_pure hg.toGlobS s
  have hF := sfields_pure hg.space sgText (by decide) (by decide) (by decide +kernel)
  obtain ⟨SG, hSG⟩ : ∃ SG, SG = Lib.fields sgText := ⟨_, rfl⟩
  have hSl : SG.length = 30 ∧ ∀ x, x ∈ SG → x.length ≤ 3 := by rw [hSG]; decide +kernel
  rw [← hSG] at hF
  clear hSG
  unfold sgText at hF
  have hW := words_pure hg.toGlobS
  have hR := rwords_pure G
  have hX := sameSelf_pure (G := G) scanWords (by decide)
  have ml : ∀ n, n ≤ 100 → (n ≤ maxLen) = True := fun n h => eq_true (by unfold maxLen; omega)
  have m2 := ml 2 (by decide)
  have m3 := ml 3 (by decide)
  have m4 := ml 4 (by decide)
  have m5 := ml 5 (by decide)
  have m6 := ml 6 (by decide)
  have m7 := ml 7 (by decide)
  intro σ
  refine Tri.of_awp mixed Tryz.func4 rfl (by kernel_rfl) (by kernel_rfl) (by simp [Tryz.ntmps4]) Tryz.results4 ?_
  repeat' (first | refine xs ?_ ?_ <;> intros | ((first | refine xh ?_ | refine xi ?_); intro bx hbx; (try simp only [fb] at hbx)) | refine xj ?_ | refine cv_plain ?_ | ((with_reducible refine And.intro ?_ ?_); omega) | refine bo_buildSlice (d' := ⟨⟩) ?_ | refine xk (by kernel_rfl) ?_ | refine xf ?_ (by repeat' first | exact lr _ | assumption | refine ls ?_ ?_ | refine lt ?_ ?_ | simp only [*]; done | simp only [fb, *, not_false_eq_true, and_self]; done | exact lf ‹_› (by simp only [*])) | refine finish_two ?_ (by repeat' first | exact lr _ | assumption | refine ls ?_ ?_ | refine lt ?_ ?_ | simp only [*]; done | simp only [fb, *, not_false_eq_true, and_self]; done | exact lf ‹_› (by simp only [*])) | simp -dsimp only [↓bp, bq, br, seval, tbLawScanNum, *] | refine cv_any ?_)
  refine loop_keep mixed (fun n e => ∃ i : Nat, i ≤ 256 ∧ n = 256 - i ∧ e 1 = .int .i64 i) 256
    ⟨0, by omega, by omega, by first | (simp -dsimp only [↓bp, bq, br, seval, tbLawScanNum]; done) | (simp -dsimp only [↓bp, bq, br, seval, tbLawScanNum]; try rfl)⟩ ?_
  rintro n v ⟨i, hi, rfl, h1⟩
  simp -dsimp only [↓bp, bq, br, seval, tbLawScanNum] at h1
  by_cases hlt : (i : Int) < 256
  · have hlt' := eq_true hlt
    have hw : IntKind.i64.wrap ((i : Int) + 1) = ((i + 1 : Nat) : Int) := by rw [wrap_nat (by omega) (by omega)]; rfl
    obtain ⟨c, hc⟩ : ∃ c : UInt8, IntKind.u8.wrap (i : Int) = (c.toNat : Int) := ⟨UInt8.ofNat i, by
      rw [UInt8.toNat_ofNat_of_lt' (by show _ < 256; omega)]
      unfold IntKind.wrap; simp [IntKind.signed, IntKind.bits]; omega⟩
    have hb : bytesOf [AV.int .u8 c.toNat] = some [c] := bytesOf_map [c]
    repeat' (first | refine xs ?_ ?_ <;> intros | ((first | refine xh ?_ | refine xi ?_); intro bx hbx; (try simp only [fb] at hbx)) | refine xj ?_ | refine cv_plain ?_ | ((with_reducible refine And.intro ?_ ?_); omega) | refine bo_buildSlice (d' := ⟨⟩) ?_ | refine xk (by kernel_rfl) ?_ | refine xf ?_ (by repeat' first | exact lr _ | assumption | refine ls ?_ ?_ | refine lt ?_ ?_ | simp only [*]; done | simp only [fb, *, not_false_eq_true, and_self]; done | exact lf ‹_› (by simp only [*])) | refine finish_two ?_ (by repeat' first | exact lr _ | assumption | refine ls ?_ ?_ | refine lt ?_ ?_ | simp only [*]; done | simp only [fb, *, not_false_eq_true, and_self]; done | exact lf ‹_› (by simp only [*])) | simp -dsimp only [↓bp, bq, br, seval, tbLawScanNum, row16, *] | refine cv_any ?_)
    have hl16 : (L16 c).length = 16 := rfl
    generalize L16 c = L at *
    refine loop_keep mixed (fun n e => ∃ k : Nat, k ≤ 16 ∧ n = 16 - k ∧ e 4 = .int .i64 k) 16
      ⟨0, by omega, by omega, by first | (simp -dsimp only [↓bp, bq, br, seval, tbLawScanNum]; done) | (simp -dsimp only [↓bp, bq, br, seval, tbLawScanNum]; try rfl)⟩ ?_
    rintro n v2 ⟨k, hk, rfl, h4⟩
    simp -dsimp only [↓bp, bq, br, seval, tbLawScanNum] at h4
    by_cases hkl : (k : Int) < 16
    · have hkl' : ((k : Int) < L.length) = True := eq_true (by omega)
      obtain ⟨x, hx⟩ : ∃ x, L[k]? = some x := ⟨_, List.getElem?_eq_getElem (by omega)⟩
      have hwk : IntKind.i64.wrap ((k : Int) + 1) = ((k + 1 : Nat) : Int) := by rw [wrap_nat (by omega) (by omega)]; rfl
      have hSx := hS x
      clear hk hlt hi hS hl16 hb hc
      repeat' (first | refine xs ?_ ?_ <;> intros | ((first | refine xh ?_ | refine xi ?_); intro bx hbx; (try simp only [fb] at hbx)) | refine Pure.use (hSx) ?_ | refine Pure.head (hSx) ?_ | refine xj ?_ | refine cv_plain ?_ | ((with_reducible refine And.intro ?_ ?_); omega) | refine bo_buildSlice (d' := ⟨⟩) ?_ | refine xk (by kernel_rfl) ?_ | refine xf ?_ (by repeat' first | exact lr _ | assumption | refine ls ?_ ?_ | refine lt ?_ ?_ | simp only [*]; done | simp only [fb, *, not_false_eq_true, and_self]; done | exact lf ‹_› (by simp only [*])) | refine finish_two ?_ (by repeat' first | exact lr _ | assumption | refine ls ?_ ?_ | refine lt ?_ ?_ | simp only [*]; done | simp only [fb, *, not_false_eq_true, and_self]; done | exact lf ‹_› (by simp only [*])) | simp -dsimp only [↓bp, bq, br, seval, tbLawScanNum, len_textsF, ix_textsF, *] | refine cv_any ?_)
      all_goals exact ⟨16 - (k + 1), by omega, k + 1, by omega, rfl, rfl⟩
    · have hkl' : ((k : Int) < L.length) = False := eq_false (by omega)
      clear hkl hS hl16 hb hc
      repeat' (first | refine xs ?_ ?_ <;> intros | ((first | refine xh ?_ | refine xi ?_); intro bx hbx; (try simp only [fb] at hbx)) | refine xj ?_ | refine cv_plain ?_ | ((with_reducible refine And.intro ?_ ?_); omega) | refine bo_buildSlice (d' := ⟨⟩) ?_ | refine xk (by kernel_rfl) ?_ | refine xf ?_ (by repeat' first | exact lr _ | assumption | refine ls ?_ ?_ | refine lt ?_ ?_ | simp only [*]; done | simp only [fb, *, not_false_eq_true, and_self]; done | exact lf ‹_› (by simp only [*])) | refine finish_two ?_ (by repeat' first | exact lr _ | assumption | refine ls ?_ ?_ | refine lt ?_ ?_ | simp only [*]; done | simp only [fb, *, not_false_eq_true, and_self]; done | exact lf ‹_› (by simp only [*])) | simp -dsimp only [↓bp, bq, br, seval, tbLawScanNum, len_textsF, ix_textsF, *] | refine cv_any ?_)
      all_goals (have hlt := of_eq_true hlt')
      all_goals exact ⟨256 - (i + 1), by omega, i + 1, by omega, rfl, rfl⟩
  · have hlt' := eq_false hlt
    have m8 := ml 1 (by decide)
    clear hlt hi ml
    repeat' (first | refine xs ?_ ?_ <;> intros | ((first | refine xh ?_ | refine xi ?_); intro bx hbx; (try simp only [fb] at hbx)) | refine Pure.use (hF) ?_ | refine Pure.head (hF) ?_ | refine xj ?_ | refine cv_plain ?_ | ((with_reducible refine And.intro ?_ ?_); omega) | refine bo_buildSlice (d' := ⟨⟩) ?_ | refine xk (by kernel_rfl) ?_ | refine xf ?_ (by repeat' first | exact lr _ | assumption | refine ls ?_ ?_ | refine lt ?_ ?_ | simp only [*]; done | simp only [fb, *, not_false_eq_true, and_self]; done | exact lf ‹_› (by simp only [*])) | refine finish_two ?_ (by repeat' first | exact lr _ | assumption | refine ls ?_ ?_ | refine lt ?_ ?_ | simp only [*]; done | simp only [fb, *, not_false_eq_true, and_self]; done | exact lf ‹_› (by simp only [*])) | simp -dsimp only [↓bp, bq, br, seval, tbLawScanNum, len_texts, ix_texts, *] | refine cv_any ?_)
    clear hF
    refine loop_keep mixed (fun n e => ∃ i : Nat, i ≤ 30 ∧ n = 30 - i ∧ e 6 = .int .i64 i) 30
      ⟨0, by omega, by omega, by first | (simp -dsimp only [↓bp, bq, br, seval, tbLawScanNum]; done) | (simp -dsimp only [↓bp, bq, br, seval, tbLawScanNum]; try rfl)⟩ ?_
    rintro n v3 ⟨i, hi, rfl, h6⟩
    simp -dsimp only [↓bp, bq, br, seval, tbLawScanNum] at h6
    by_cases hil : (i : Int) < 30
    · have hil' : ((i : Int) < SG.length) = True := eq_true (by omega)
      obtain ⟨x, hx⟩ : ∃ x, SG[i]? = some x := ⟨_, List.getElem?_eq_getElem (by omega)⟩
      have hwi : IntKind.i64.wrap ((i : Int) + 1) = ((i + 1 : Nat) : Int) := by rw [wrap_nat (by omega) (by omega)]; rfl
      have hxl := hSl.2 x (List.mem_of_getElem? hx)
      repeat' (first | refine xs ?_ ?_ <;> intros | ((first | refine xh ?_ | refine xi ?_); intro bx hbx; (try simp only [fb] at hbx)) | refine xj ?_ | refine cv_plain ?_ | ((with_reducible refine And.intro ?_ ?_); omega) | refine bo_buildSlice (d' := ⟨⟩) ?_ | refine xk (by kernel_rfl) ?_ | refine xf ?_ (by repeat' first | exact lr _ | assumption | refine ls ?_ ?_ | refine lt ?_ ?_ | simp only [*]; done | simp only [fb, *, not_false_eq_true, and_self]; done | exact lf ‹_› (by simp only [*])) | refine finish_two ?_ (by repeat' first | exact lr _ | assumption | refine ls ?_ ?_ | refine lt ?_ ?_ | simp only [*]; done | simp only [fb, *, not_false_eq_true, and_self]; done | exact lf ‹_› (by simp only [*])) | simp -dsimp only [↓bp, bq, br, seval, tbLawScanNum, len_texts, ix_texts, *] | refine cv_any ?_)
      refine loop_keep mixed (fun n e => ∃ k : Nat, k ≤ 30 ∧ n = 30 - k ∧ e 7 = .int .i64 k) 30
        ⟨0, by omega, by omega, by first | (simp -dsimp only [↓bp, bq, br, seval, tbLawScanNum]; done) | (simp -dsimp only [↓bp, bq, br, seval, tbLawScanNum]; try rfl)⟩ ?_
      rintro n v4 ⟨k, hk, rfl, h7⟩
      simp -dsimp only [↓bp, bq, br, seval, tbLawScanNum] at h7
      by_cases hkl : (k : Int) < 30
      · have hkl' : ((k : Int) < SG.length) = True := eq_true (by omega)
        obtain ⟨y, hy⟩ : ∃ y, SG[k]? = some y := ⟨_, List.getElem?_eq_getElem (by omega)⟩
        have hwk : IntKind.i64.wrap ((k : Int) + 1) = ((k + 1 : Nat) : Int) := by rw [wrap_nat (by omega) (by omega)]; rfl
        have hyl := hSl.2 y (List.mem_of_getElem? hy)
        have c1 : (x.length + y.length ≤ maxLen) = True := eq_true (by unfold maxLen; omega)
        have c2 : (x.length + 1 ≤ maxLen) = True := eq_true (by unfold maxLen; omega)
        have c3 : ((x ++ y).length + 1 ≤ maxLen) = True := eq_true (by rw [List.length_append]; unfold maxLen; omega)
        have c4 : ((x ++ [32]).length + y.length ≤ maxLen) = True := eq_true (by rw [List.length_append, List.length_singleton]; unfold maxLen; omega)
        have s1 := hS (x ++ y)
        have s2 := hS (x ++ y ++ [61])
        have s3 := hS (x ++ [32] ++ y)
        clear hk hi hS hSl hxl hyl hil
        repeat' (first | refine xs ?_ ?_ <;> intros | ((first | refine xh ?_ | refine xi ?_); intro bx hbx; (try simp only [fb] at hbx)) | refine Pure.use (s1) ?_ | refine Pure.head (s1) ?_ | refine Pure.use (s2) ?_ | refine Pure.head (s2) ?_ | refine Pure.use (s3) ?_ | refine Pure.head (s3) ?_ | refine xj ?_ | refine cv_plain ?_ | ((with_reducible refine And.intro ?_ ?_); omega) | refine bo_buildSlice (d' := ⟨⟩) ?_ | refine xk (by kernel_rfl) ?_ | refine xf ?_ (by repeat' first | exact lr _ | assumption | refine ls ?_ ?_ | refine lt ?_ ?_ | simp only [*]; done | simp only [fb, *, not_false_eq_true, and_self]; done | exact lf ‹_› (by simp only [*])) | refine finish_two ?_ (by repeat' first | exact lr _ | assumption | refine ls ?_ ?_ | refine lt ?_ ?_ | simp only [*]; done | simp only [fb, *, not_false_eq_true, and_self]; done | exact lf ‹_› (by simp only [*])) | simp -dsimp only [↓bp, bq, br, seval, tbLawScanNum, len_texts, ix_texts, *] | refine cv_any ?_)
        all_goals exact ⟨30 - (k + 1), by omega, k + 1, by omega, rfl, rfl⟩
      · have hkl' : ((k : Int) < SG.length) = False := eq_false (by omega)
        clear hkl hS hSl hxl
        repeat' (first | refine xs ?_ ?_ <;> intros | ((first | refine xh ?_ | refine xi ?_); intro bx hbx; (try simp only [fb] at hbx)) | refine xj ?_ | refine cv_plain ?_ | ((with_reducible refine And.intro ?_ ?_); omega) | refine bo_buildSlice (d' := ⟨⟩) ?_ | refine xk (by kernel_rfl) ?_ | refine xf ?_ (by repeat' first | exact lr _ | assumption | refine ls ?_ ?_ | refine lt ?_ ?_ | simp only [*]; done | simp only [fb, *, not_false_eq_true, and_self]; done | exact lf ‹_› (by simp only [*])) | refine finish_two ?_ (by repeat' first | exact lr _ | assumption | refine ls ?_ ?_ | refine lt ?_ ?_ | simp only [*]; done | simp only [fb, *, not_false_eq_true, and_self]; done | exact lf ‹_› (by simp only [*])) | simp -dsimp only [↓bp, bq, br, seval, tbLawScanNum, len_texts, ix_texts, *] | refine cv_any ?_)
        all_goals exact ⟨30 - (i + 1), by omega, i + 1, by omega, rfl, rfl⟩
    · have hil' : ((i : Int) < SG.length) = False := eq_false (by omega)
      clear hil hi hSl
      have hsw : ∀ x, x ∈ scanWords → Pure Tryz.prog G 15 [.str x, .sl .full [.agg [.int .u8 6, .str x, .int .i64 0], .agg [.int .u8 8, .str [], .int .i64 x.length]] []] (.bool true) ∧ Pure Tryz.prog G 15 [.str (39 :: (x ++ [39])), .sl .full [.agg [.int .u8 2, .str x, .int .i64 0], .agg [.int .u8 8, .str [], .int .i64 (x.length + 2 : Nat)]] []] (.bool true) ∧ 1 ≤ x.length ∧ x.length ≤ 100 := fun x hx => by
        obtain ⟨f1, f2, f3, f4⟩ := scan_word x hx
        have i1 := is_ok hg.toGlobS (by omega) f1 [⟨6, x, 0⟩, ⟨8, [], x.length⟩] (by simp) .full
        have i2 := is_ok hg.toGlobS (by simp; omega) f2 [⟨2, x, 0⟩, ⟨8, [], x.length + 2⟩] (by simp) .full
        rw [decide_eq_true rfl] at i1 i2
        exact ⟨i1, i2, f3, f4⟩
      have hl19 : scanWords.length = 19 := rfl
      repeat' (first | refine xs ?_ ?_ <;> intros | ((first | refine xh ?_ | refine xi ?_); intro bx hbx; (try simp only [fb] at hbx)) | refine Pure.use (hW) ?_ | refine Pure.head (hW) ?_ | refine Pure.use (hR) ?_ | refine Pure.head (hR) ?_ | refine Pure.use (hX) ?_ | refine Pure.head (hX) ?_ | refine xj ?_ | refine cv_plain ?_ | ((with_reducible refine And.intro ?_ ?_); omega) | refine bo_buildSlice (d' := ⟨⟩) ?_ | refine xk (by kernel_rfl) ?_ | refine xf ?_ (by repeat' first | exact lr _ | assumption | refine ls ?_ ?_ | refine lt ?_ ?_ | simp only [*]; done | simp only [fb, *, not_false_eq_true, and_self]; done | exact lf ‹_› (by simp only [*])) | refine finish_two ?_ (by repeat' first | exact lr _ | assumption | refine ls ?_ ?_ | refine lt ?_ ?_ | simp only [*]; done | simp only [fb, *, not_false_eq_true, and_self]; done | exact lf ‹_› (by simp only [*])) | simp -dsimp only [↓bp, bq, br, seval, tbLawScanNum, len_texts, ix_texts, *] | refine cv_any ?_)
      clear hW hR hX
      generalize scanWords = WL at *
      have ht := fun k t p => ltoken_pure (G := G) k p t
      refine loop_keep mixed (fun n e => ∃ i : Nat, i ≤ 19 ∧ n = 19 - i ∧ e 9 = .int .i64 i) 19
        ⟨0, by omega, by omega, by first | (simp -dsimp only [↓bp, bq, br, seval, tbLawScanNum]; done) | (simp -dsimp only [↓bp, bq, br, seval, tbLawScanNum]; try rfl)⟩ ?_
      rintro n v5 ⟨i, hi, rfl, h9⟩
      simp -dsimp only [↓bp, bq, br, seval, tbLawScanNum] at h9
      by_cases hil : (i : Int) < 19
      · have hil' : ((i : Int) < WL.length) = True := eq_true (by omega)
        obtain ⟨x, hx⟩ : ∃ x, WL[i]? = some x := ⟨_, List.getElem?_eq_getElem (by omega)⟩
        have hwi : IntKind.i64.wrap ((i : Int) + 1) = ((i + 1 : Nat) : Int) := by rw [wrap_nat (by omega) (by omega)]; rfl
        obtain ⟨i1, i2, f3, f4⟩ := hsw x (List.mem_of_getElem? hx)
        have c1 : (x.length + 1 ≤ maxLen) = True := eq_true (by unfold maxLen; omega)
        have c2 : (1 + x.length ≤ maxLen) = True := eq_true (by unfold maxLen; omega)
        have c3 : (x.length + 1 + 1 ≤ maxLen) = True := eq_true (by unfold maxLen; omega)
        have c4 : (x.length - 1 ≤ x.length) = True := eq_true (by omega)
        have d1 : IntKind.i64.wrap ((x.length : Int) - 1) = ((x.length - 1 : Nat) : Int) := by rw [wrap_nat (by omega) (by omega)]; omega
        have d2 : IntKind.i64.wrap ((x.length : Int) + 2) = ((x.length + 2 : Nat) : Int) := by rw [wrap_nat (by omega) (by omega)]; omega
        have s1 := hS (x ++ [115])
        have s2 := hS (x.take (x.length - 1))
        clear hi hS hsw hl19 f3 f4
        repeat' (first | refine xs ?_ ?_ <;> intros | ((first | refine xh ?_ | refine xi ?_); intro bx hbx; (try simp only [fb] at hbx)) | refine Pure.use (i1) ?_ | refine Pure.head (i1) ?_ | refine Pure.use (i2) ?_ | refine Pure.head (i2) ?_ | refine Pure.use (s1) ?_ | refine Pure.head (s1) ?_ | refine Pure.use (s2) ?_ | refine Pure.head (s2) ?_ | refine Pure.use (ht _ _ _) ?_ | refine Pure.head (ht _ _ _) ?_ | refine xj ?_ | refine cv_plain ?_ | ((with_reducible refine And.intro ?_ ?_); omega) | refine bo_buildSlice (d' := ⟨⟩) ?_ | refine xk (by kernel_rfl) ?_ | refine xf ?_ (by repeat' first | exact lr _ | assumption | refine ls ?_ ?_ | refine lt ?_ ?_ | simp only [*]; done | simp only [fb, *, not_false_eq_true, and_self]; done | exact lf ‹_› (by simp only [*])) | refine finish_two ?_ (by repeat' first | exact lr _ | assumption | refine ls ?_ ?_ | refine lt ?_ ?_ | simp only [*]; done | simp only [fb, *, not_false_eq_true, and_self]; done | exact lf ‹_› (by simp only [*])) | simp -dsimp only [↓bp, bq, br, seval, tbLawScanNum, len_texts, ix_texts, *] | refine cv_any ?_)
        all_goals exact ⟨19 - (i + 1), by omega, i + 1, by omega, rfl, rfl⟩
      · have hil' : ((i : Int) < WL.length) = False := eq_false (by omega)
        clear hil hi hsw hl19
        repeat' (first | refine xs ?_ ?_ <;> intros | ((first | refine xh ?_ | refine xi ?_); intro bx hbx; (try simp only [fb] at hbx)) | refine xj ?_ | refine cv_plain ?_ | ((with_reducible refine And.intro ?_ ?_); omega) | refine bo_buildSlice (d' := ⟨⟩) ?_ | refine xk (by kernel_rfl) ?_ | refine xf ?_ (by repeat' first | exact lr _ | assumption | refine ls ?_ ?_ | refine lt ?_ ?_ | simp only [*]; done | simp only [fb, *, not_false_eq_true, and_self]; done | exact lf ‹_› (by simp only [*])) | refine finish_two ?_ (by repeat' first | exact lr _ | assumption | refine ls ?_ ?_ | refine lt ?_ ?_ | simp only [*]; done | simp only [fb, *, not_false_eq_true, and_self]; done | exact lf ‹_› (by simp only [*])) | simp -dsimp only [↓bp, bq, br, seval, tbLawScanNum, len_texts, ix_texts, *] | refine cv_any ?_)
        clear hil'
        refine loop_keep mixed (fun n e => ∃ i : Nat, 39 ≤ i ∧ i ≤ 42 ∧ n = 42 - i ∧ e 11 = .int .i64 i) 3
          ⟨39, by omega, by omega, by omega, by first | (simp -dsimp only [↓bp, bq, br, seval, tbLawScanNum]; done) | (simp -dsimp only [↓bp, bq, br, seval, tbLawScanNum]; try rfl)⟩ ?_
        rintro n v6 ⟨i, hi0, hi, rfl, h11⟩
        simp -dsimp only [↓bp, bq, br, seval, tbLawScanNum] at h11
        by_cases hil : (i : Int) < 42
        · have hil' := eq_true hil
          have hwi : IntKind.i64.wrap ((i : Int) + 1) = ((i + 1 : Nat) : Int) := by rw [wrap_nat (by omega) (by omega)]; rfl
          have r1 := srepeat_pure (G := G) [97] i (by omega) (by simp; omega)
          have r2 := srepeat_pure (G := G) [32] i (by omega) (by simp; omega)
          have r3 := srepeat_pure (G := G) [92, 120, 52, 49] i (by omega) (by simp; omega)
          have z1 := Lib.repeatL_length [97] i
          have z2 := Lib.repeatL_length [32] i
          have z3 := Lib.repeatL_length [92, 120, 52, 49] i
          generalize Lib.repeatL [97] i = R1 at *
          generalize Lib.repeatL [32] i = R2 at *
          generalize Lib.repeatL [92, 120, 52, 49] i = R3 at *
          simp only [List.length_cons, List.length_nil] at z1 z2 z3
          have c1 : (1 + R1.length ≤ maxLen) = True := eq_true (by unfold maxLen; omega)
          have c2 : (1 + R2.length ≤ maxLen) = True := eq_true (by unfold maxLen; omega)
          have c3 : (1 + R3.length ≤ maxLen) = True := eq_true (by unfold maxLen; omega)
          have c4 : (R2.length + 1 + 1 ≤ maxLen) = True := eq_true (by unfold maxLen; omega)
          have c5 : (R3.length + 1 + 1 ≤ maxLen) = True := eq_true (by unfold maxLen; omega)
          have s1 := hS R1
          have s2 := hS (88 :: R1)
          have s3 := hS (39 :: (R2 ++ [39]))
          have s4 := hS (39 :: (R3 ++ [39]))
          clear hS z1 z2 z3 hil
          repeat' (first | refine xs ?_ ?_ <;> intros | ((first | refine xh ?_ | refine xi ?_); intro bx hbx; (try simp only [fb] at hbx)) | refine Pure.use (r1) ?_ | refine Pure.head (r1) ?_ | refine Pure.use (r2) ?_ | refine Pure.head (r2) ?_ | refine Pure.use (r3) ?_ | refine Pure.head (r3) ?_ | refine Pure.use (s1) ?_ | refine Pure.head (s1) ?_ | refine Pure.use (s2) ?_ | refine Pure.head (s2) ?_ | refine Pure.use (s3) ?_ | refine Pure.head (s3) ?_ | refine Pure.use (s4) ?_ | refine Pure.head (s4) ?_ | refine xj ?_ | refine cv_plain ?_ | ((with_reducible refine And.intro ?_ ?_); omega) | refine bo_buildSlice (d' := ⟨⟩) ?_ | refine xk (by kernel_rfl) ?_ | refine xf ?_ (by repeat' first | exact lr _ | assumption | refine ls ?_ ?_ | refine lt ?_ ?_ | simp only [*]; done | simp only [fb, *, not_false_eq_true, and_self]; done | exact lf ‹_› (by simp only [*])) | refine finish_two ?_ (by repeat' first | exact lr _ | assumption | refine ls ?_ ?_ | refine lt ?_ ?_ | simp only [*]; done | simp only [fb, *, not_false_eq_true, and_self]; done | exact lf ‹_› (by simp only [*])) | simp -dsimp only [↓bp, bq, br, seval, tbLawScanNum, *] | refine cv_any ?_)
          all_goals (have hil := of_eq_true hil')
          all_goals exact ⟨42 - (i + 1), by omega, i + 1, by omega, by omega, rfl, rfl⟩
        · have hil' := eq_false hil
          clear hil hi
          repeat' (first | refine xs ?_ ?_ <;> intros | ((first | refine xh ?_ | refine xi ?_); intro bx hbx; (try simp only [fb] at hbx)) | refine xj ?_ | refine cv_plain ?_ | ((with_reducible refine And.intro ?_ ?_); omega) | refine bo_buildSlice (d' := ⟨⟩) ?_ | refine xk (by kernel_rfl) ?_ | refine xf ?_ (by repeat' first | exact lr _ | assumption | refine ls ?_ ?_ | refine lt ?_ ?_ | simp only [*]; done | simp only [fb, *, not_false_eq_true, and_self]; done | exact lf ‹_› (by simp only [*])) | refine finish_two ?_ (by repeat' first | exact lr _ | assumption | refine ls ?_ ?_ | refine lt ?_ ?_ | simp only [*]; done | simp only [fb, *, not_false_eq_true, and_self]; done | exact lf ‹_› (by simp only [*])) | simp -dsimp only [↓bp, bq, br, seval, tbLawScanNum, *] | refine cv_any ?_)
          clear hil'
          refine loop_keep mixed (fun n e => ∃ i : Nat, 399 ≤ i ∧ i ≤ 402 ∧ n = 402 - i ∧ e 12 = .int .i64 i) 3
            ⟨399, by omega, by omega, by omega, by first | (simp -dsimp only [↓bp, bq, br, seval, tbLawScanNum]; done) | (simp -dsimp only [↓bp, bq, br, seval, tbLawScanNum]; try rfl)⟩ ?_
          rintro n v7 ⟨i, hi0, hi, rfl, h12⟩
          simp -dsimp only [↓bp, bq, br, seval, tbLawScanNum] at h12
          by_cases hil : (i : Int) < 402
          · have hil' := eq_true hil
            have hwi : IntKind.i64.wrap ((i : Int) + 1) = ((i + 1 : Nat) : Int) := by rw [wrap_nat (by omega) (by omega)]; rfl
            have r1 := srepeat_pure (G := G) [49] i (by omega) (by simp; omega)
            have r2 := srepeat_pure (G := G) [92, 110] i (by omega) (by simp; omega)
            have r3 := srepeat_pure (G := G) [255] i (by omega) (by simp; omega)
            have z2 := Lib.repeatL_length [92, 110] i
            have z3 := Lib.repeatL_length [255] i
            generalize Lib.repeatL [49] i = R1 at *
            generalize Lib.repeatL [92, 110] i = R2 at *
            generalize Lib.repeatL [255] i = R3 at *
            simp only [List.length_cons, List.length_nil] at z2 z3
            have c2 : (1 + R2.length ≤ maxLen) = True := eq_true (by unfold maxLen; omega)
            have c3 : (1 + R3.length ≤ maxLen) = True := eq_true (by unfold maxLen; omega)
            have c4 : (R2.length + 1 + 1 ≤ maxLen) = True := eq_true (by unfold maxLen; omega)
            have c5 : (R3.length + 1 + 1 ≤ maxLen) = True := eq_true (by unfold maxLen; omega)
            have s1 := hS R1
            have s3 := hS (34 :: (R2 ++ [34]))
            have s4 := hS (34 :: (R3 ++ [34]))
            clear hS z2 z3 hil
            repeat' (first | refine xs ?_ ?_ <;> intros | ((first | refine xh ?_ | refine xi ?_); intro bx hbx; (try simp only [fb] at hbx)) | refine Pure.use (r1) ?_ | refine Pure.head (r1) ?_ | refine Pure.use (r2) ?_ | refine Pure.head (r2) ?_ | refine Pure.use (r3) ?_ | refine Pure.head (r3) ?_ | refine Pure.use (s1) ?_ | refine Pure.head (s1) ?_ | refine Pure.use (s3) ?_ | refine Pure.head (s3) ?_ | refine Pure.use (s4) ?_ | refine Pure.head (s4) ?_ | refine xj ?_ | refine cv_plain ?_ | ((with_reducible refine And.intro ?_ ?_); omega) | refine bo_buildSlice (d' := ⟨⟩) ?_ | refine xk (by kernel_rfl) ?_ | refine xf ?_ (by repeat' first | exact lr _ | assumption | refine ls ?_ ?_ | refine lt ?_ ?_ | simp only [*]; done | simp only [fb, *, not_false_eq_true, and_self]; done | exact lf ‹_› (by simp only [*])) | refine finish_two ?_ (by repeat' first | exact lr _ | assumption | refine ls ?_ ?_ | refine lt ?_ ?_ | simp only [*]; done | simp only [fb, *, not_false_eq_true, and_self]; done | exact lf ‹_› (by simp only [*])) | simp -dsimp only [↓bp, bq, br, seval, tbLawScanNum, *] | refine cv_any ?_)
            all_goals (have hil := of_eq_true hil')
            all_goals exact ⟨402 - (i + 1), by omega, i + 1, by omega, by omega, rfl, rfl⟩
          · have hil' := eq_false hil
            have b1 : Pure Tryz.prog G 17 [.str [32], .int .i64 65536] (.str (List.replicate 65536 32)) := by
              have h := srepeat_pure (G := G) [32] 65536 (by omega) (by simp)
              rw [repeatL_one] at h; exact h
            have b2 : Pure Tryz.prog G 17 [.str [32], .int .i64 65537] (.str (List.replicate 65537 32)) := by
              have h := srepeat_pure (G := G) [32] 65537 (by omega) (by simp)
              rw [repeatL_one] at h; exact h
            have b3 : Pure Tryz.prog G 17 [.str [63], .int .i64 65537] (.str (List.replicate 65537 63)) := by
              have h := srepeat_pure (G := G) [63] 65537 (by omega) (by simp)
              rw [repeatL_one] at h; exact h
            have e1 : Pure Tryz.prog G 15 [.str (List.replicate 65536 32), .sl .full [.agg [.int .u8 8, .str [], .int .i64 65536]] []] (.bool true) := by
              have h := is_ok hg.toGlobS (by rw [List.length_replicate]; omega) (scan_blanks 65536 (by omega)) [⟨8, [], 65536⟩] (by simp) .full
              rw [decide_eq_true rfl] at h
              exact h
            have e2 : Pure Tryz.prog G 18 [.str (List.replicate 65537 32), .int .i64 3, .int .i64 0] (.bool true) := fault_bad hg.toGlobS (by rw [List.length_replicate]; omega) (scan_many 32 65537 (by omega))
            have e3 : Pure Tryz.prog G 18 [.str (List.replicate 65537 63), .int .i64 3, .int .i64 0] (.bool true) := fault_bad hg.toGlobS (by rw [List.length_replicate]; omega) (scan_many 63 65537 (by omega))
            generalize List.replicate 65536 (32 : UInt8) = B1 at *
            generalize List.replicate 65537 (32 : UInt8) = B2 at *
            generalize List.replicate 65537 (63 : UInt8) = B3 at *
            clear hil hi hS
            repeat' (first | refine xs ?_ ?_ <;> intros | ((first | refine xh ?_ | refine xi ?_); intro bx hbx; (try simp only [fb] at hbx)) | refine Pure.use (b1) ?_ | refine Pure.head (b1) ?_ | refine Pure.use (b2) ?_ | refine Pure.head (b2) ?_ | refine Pure.use (b3) ?_ | refine Pure.head (b3) ?_ | refine Pure.use (e1) ?_ | refine Pure.head (e1) ?_ | refine Pure.use (e2) ?_ | refine Pure.head (e2) ?_ | refine Pure.use (e3) ?_ | refine Pure.head (e3) ?_ | refine Pure.use (w) ?_ | refine Pure.head (w) ?_ | refine Pure.use (ht _ _ _) ?_ | refine Pure.head (ht _ _ _) ?_ | refine xj ?_ | refine cv_plain ?_ | ((with_reducible refine And.intro ?_ ?_); omega) | refine bo_buildSlice (d' := ⟨⟩) ?_ | refine xk (by kernel_rfl) ?_ | refine xf ?_ (by repeat' first | exact lr _ | assumption | refine ls ?_ ?_ | refine lt ?_ ?_ | simp only [*]; done | simp only [fb, *, not_false_eq_true, and_self]; done | exact lf ‹_› (by simp only [*])) | refine finish_two ?_ (by repeat' first | exact lr _ | assumption | refine ls ?_ ?_ | refine lt ?_ ?_ | simp only [*]; done | simp only [fb, *, not_false_eq_true, and_self]; done | exact lf ‹_› (by simp only [*])) | simp -dsimp only [↓bp, bq, br, seval, tbLawScanNum, *] | refine cv_any ?_)
            all_goals rfl
end
set_option maxRecDepth 100000
section
open Go Go.Av Go.RowKit Go.ChangeShapes
variable {H : Type}
def SS : List TypeId := [9, 76, 98, 3]
theorem closedSS : closedT Tryz.prog SS = true := by kernel_rfl
def GvS (m : Int) : Nat → AV := fun g => if g = 0 then .rp (scanWords.map AV.str) else if g = 2 then .rp (scanSigns.map AV.str) else if g = 4 then .rp [.int .i64 m] else .raw (.pointer (some ⟨g, 0, none⟩))
theorem words_av : flat (avW (H := Unit) Rows.laid_pigeonhole_scan_words) = scanWords.map AV.str := by kernel_rfl
theorem signs_av : flat (avW (H := Unit) Rows.laid_pigeonhole_scan_signs) = scanSigns.map AV.str := by kernel_rfl
theorem entry_globS {W : World} {laid : List (String × DataW Unit)} (hL : laidMet Tryz.prog laid W) (h1 : ("pigeonhole/scan.words", Rows.laid_pigeonhole_scan_words) ∈ laid) (h2 : ("pigeonhole/scan.signs", Rows.laid_pigeonhole_scan_signs) ∈ laid)
    (hsh : W.ShapedOpen Tryz.prog) : ∃ m, ∀ g, VR (entryK W) (GvS m g) (.pointer (some ⟨g, 0, none⟩)) := by
  have g0 : VR (entryK W) (.rp (scanWords.map AV.str)) (.pointer (some ⟨0, 0, none⟩)) :=
    laid_glob closedSS hL (n := "pigeonhole/scan.words") h1 (g := 0) (t := 76) (by kernel_rfl) (by kernel_rfl) (by decide) words_av
  have g1 : VR (entryK W) (.rp (scanSigns.map AV.str)) (.pointer (some ⟨2, 0, none⟩)) :=
    laid_glob closedSS hL (n := "pigeonhole/scan.signs") h2 (g := 2) (t := 98) (by kernel_rfl) (by kernel_rfl) (by decide) signs_av
  have g2 : ∃ m, W.cell? ⟨4, 0, none⟩ = some (.int .i64 m) :=
    Go.Proofs.cell_of_shapedOpen_int (zero := #[.int .i64 0]) (t := 3) hsh (of_decide_eq_true (by kernel_rfl)) (by kernel_rfl) rfl (by kernel_rfl) (by kernel_rfl) Tryz.underlying3
  obtain ⟨m, g2⟩ := int_glob g2
  refine ⟨m, fun g => ?_⟩
  unfold GvS
  by_cases e0 : g = 0
  · subst e0; exact g0
  · by_cases e1 : g = 2
    · subst e1; exact g1
    · by_cases e2 : g = 4
      · subst e2; exact g2
      · rw [if_neg e0, if_neg e1, if_neg e2]; exact .raw _
end
set_option maxRecDepth 100000
section
open Go Go.Av Go.RowKit Go.ChangeShapes
variable {H : Type}
theorem laid_tabN {P : Program} {W : World} {S : List TypeId} (hS : closedT P S = true) {laid : List (String × DataW Unit)} (hL : laidMet P laid W) {n : String} {d : DataW Unit} (hm : (n, d) ∈ laid) {g : Nat} {t : TypeId} (hg : P.globalNamed n = some g)
    (ht : (P.globals[g]?).map (·.type) = some t) (htS : t ∈ S) {k : IntKind} {zs : List Int} (hcs : flat (avW d) = zs.map fun z => .int k z) : VR (entryK W) (.tab (zs.map fun z => .int k z)) (.pointer (some ⟨g, 0, none⟩)) := by
  obtain ⟨ps, h1, _⟩ := hL
  obtain ⟨g', t', vs, fuel, p, hg', ht', hvar, hd⟩ := laidVars_mem laid ps h1 hm
  obtain rfl := Option.some.inj (hg.symm.trans hg')
  obtain rfl := Option.some.inj (ht.symm.trans ht')
  obtain ⟨_, h2, _⟩ := read_all (K := entryK W) hS (fun b o v h => h) fuel t _ _ htS hd
  simp only [hcs] at h2
  have hsz := h2.size
  have hv : vs = (zs.map fun z => Value.int k z).toArray := by
    apply Array.toList_inj.1
    refine List.ext_getElem? fun j => ?_
    by_cases hj : j < zs.length
    · have h3 := h2.at_ j (by simpa using hj)
      simp only [List.getElem_map, VR.int_iff] at h3
      have hj2 : j < vs.toList.length := by rw [hsz]; simpa using hj
      rw [List.getD_eq_getElem?_getD, List.getElem?_eq_getElem hj2] at h3
      simp only [Option.getD_some] at h3
      rw [List.getElem?_eq_getElem hj2, h3]
      simp [hj]
    · rw [List.getElem?_eq_none (by simp at hsz ⊢; omega), List.getElem?_eq_none (by simp; omega)]
  unfold World.var? at hvar
  rw [hg] at hvar
  simp only [Option.bind_some] at hvar
  cases hw : W.heap[g]? with
  | none => rw [hw] at hvar; simp at hvar
  | some o =>
    rw [hw] at hvar
    cases o with
    | cells cs E fz =>
      simp only [Option.some.injEq] at hvar
      subst hvar
      rw [hv] at hw
      exact .tab _ g E fz (Array.getElem?_eq_some_iff.1 hw).1 hw
    | _ => simp at hvar
def SN : List TypeId := [77, 5]
theorem closedSN : closedT Tryz.prog SN = true := by kernel_rfl
def GvN (m : Int) : Nat → AV := fun g => if g = 1 then .tab spV else GvS m g
theorem globGvN (m : Int) : GlobN (GvN m) := { words := rfl, signs := rfl, most := ⟨m, rfl⟩, space := rfl }
theorem space_av : flat (avW (H := Unit) Rows.laid_strings_asciiSpace) = Lib.asciiSpaceTab.map fun z => AV.int .u8 z := by kernel_rfl
theorem entry_globN {W : World} {laid : List (String × DataW Unit)} (hL : laidMet Tryz.prog laid W) (h1 : ("pigeonhole/scan.words", Rows.laid_pigeonhole_scan_words) ∈ laid) (h2 : ("pigeonhole/scan.signs", Rows.laid_pigeonhole_scan_signs) ∈ laid) (h3 : ("strings.asciiSpace", Rows.laid_strings_asciiSpace) ∈ laid)
    (hsh : W.ShapedOpen Tryz.prog) : ∃ m, ∀ g, VR (entryK W) (GvN m g) (.pointer (some ⟨g, 0, none⟩)) := by
  obtain ⟨m, hm⟩ := entry_globS hL h1 h2 hsh
  have g0 : VR (entryK W) (.tab spV) (.pointer (some ⟨1, 0, none⟩)) :=
    laid_tabN closedSN hL (n := "strings.asciiSpace") h3 (g := 1) (t := 77) (k := .u8) (zs := Lib.asciiSpaceTab) (by kernel_rfl) (by kernel_rfl) (by decide) space_av
  refine ⟨m, fun g => ?_⟩
  unfold GvN
  by_cases e0 : g = 1
  · subst e0; exact g0
  · rw [if_neg e0]; exact hm g
end
end Go.Proofs.YtldmniappliepaaGreatDoor
