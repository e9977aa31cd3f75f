/- Whether terms, and rows, are alike; whether what is seen is within, or the same. -/
import Derived.Test.YtphnoaihojccbaaGreatDoorZ04
import Derived.Shelf.Strings.BuilderX
import Derived.Lib.Strings
import Derived.Lib.Slices
import Derived.Lib.Walk
import Derived.Lib.Builder
import Derived.Lib.AppendStr
import Derived.Lib.UnsafeStr
import Derived.Lib.MakeNoZero
import Derived.Laws.Externs
import Derived.Test.YtphnoaihojccbaaGreatDoorChecked
import Derived.KernelRfl
import Derived.Laws.Tables
set_option linter.unusedVariables false
set_option linter.unusedSimpArgs false
set_option maxRecDepth 20000
set_option linter.defProp false
namespace Go.Proofs.YtphnoaihojccbaaGreatDoor
open Go Go.Av
def tbTaleA := And.intro (And.intro (And.intro (And.intro (And.intro @tf3 @tf4) (And.intro @tf5 (And.intro @tf85 @tf9))) (And.intro (And.intro @tf40 (And.intro @tf39 @tf22)) (And.intro @tf42 (And.intro @tf23 @tf44)))) (And.intro (And.intro (And.intro @tf24 @tf46) (And.intro @tf26 (And.intro @tf52 @tf53))) (And.intro (And.intro @Term.flat_enc (And.intro @Term.isv_enc @Term.fold_enc)) (And.intro @isv_encs (And.intro @flat_encs @len_encs))))) (And.intro (And.intro (And.intro (And.intro @ix_encs @isv_lims) (And.intro @flat_lims (And.intro @len_lims @ix_lims))) (And.intro (And.intro @flat_limA (And.intro @Ended.flat_enc @Ended.isv_enc)) (And.intro @Ended.fold_enc (And.intro @Named.flat_enc @Named.isv_enc)))) (And.intro (And.intro (And.intro @Named.fold_enc (And.intro @Seen.flat_enc @Seen.isv_enc)) (And.intro @Seen.fold_enc (And.intro @isv_encE @flat_encE))) (And.intro (And.intro @len_encE (And.intro @ix_encE @isv_encN)) (And.intro @flat_encN (And.intro @len_encN @ix_encN)))))
variable (G : Nat → AV)
theorem take_same {α : Type} {l r : List α} {i : Nat} {x : α} (h : l.take i = r.take i) (hx : l[i]? = some x) (hy : r[i]? = some x) : l.take (i + 1) = r.take (i + 1) := by
  rw [take_succ_get _ _ _ hx, take_succ_get _ _ _ hy, h]
theorem take_ne {α : Type} {l r : List α} {i : Nat} {x y : α} (hx : l[i]? = some x) (hy : r[i]? = some y) (h : x ≠ y) : l ≠ r := fun e => by
  subst e; rw [hx] at hy; injection hy with hy; exact h hy
theorem take_end {α : Type} {l r : List α} (hl : l.length = r.length) (h : l.take l.length = r.take l.length) : l = r := by
  rw [List.take_length, hl, List.take_length] at h; exact h
theorem eqL_pure (l r : List UInt32) (hl : l.length ≤ 1000000000) (hr : r.length ≤ 1000000000) : Pure Tryz.prog G 49 [lims l, lims r] (.bool (decide (l = r))) := by
  intro σ
  by_cases hn : (l.length : Int) = r.length
  · have hn' := eq_true hn
    refine Tri.of_awp mixed Tryz.func49 rfl (by kernel_rfl) (by kernel_rfl) (by simp [Tryz.ntmps49]) Tryz.results49 ?_
    simp -dsimp only [↓bp, bq, br, seval, tbTaleA, hn']
    refine loop_keep mixed (fun n e => ∃ i : Nat, i ≤ (l).length ∧ n = (l).length - i ∧ e 13 = .int .i64 i ∧ l.take i = r.take i) (l).length
        ⟨0, by omega, by omega, by simp -dsimp only [↓bp, bq, br, seval, tbTaleA]; first | done | rfl, rfl⟩ ?_
    rintro n v ⟨i, hi, rfl, h13, htk⟩
    simp -dsimp only [↓bp, bq, br, seval, tbTaleA] at h13
    simp -dsimp only [↓bp, bq, br, seval, tbTaleA, h13]
    refine condW_dec (fun hlt => ?_) (fun hge => ?_)
    · obtain ⟨x, hx⟩ : ∃ x, l[i]? = some x := ⟨_, List.getElem?_eq_getElem (by omega)⟩
      obtain ⟨y, hy⟩ : ∃ y, r[i]? = some y := ⟨_, List.getElem?_eq_getElem (by omega)⟩
      have hw : IntKind.i64.wrap ((i : Int) + 1) = ((i + 1 : Nat) : Int) := by rw [wrap_nat (by omega) (by omega)]; rfl
      by_cases hxy : x = y
      · subst hxy
        have h2 := take_same htk hx hy
        clear hi hn hl hr
        repeat' (first | refine xs ?_ ?_ <;> intros | ((first | refine xh ?_ | refine xi ?_); intro bx hbx; (try simp only [fb] at hbx)) | refine xj ?_ | ((with_reducible refine And.intro ?_ ?_); omega) | refine bo_buildSlice (d' := ⟨⟩) ?_ | refine xk (by kernel_rfl) ?_ | refine xf ?_ (by repeat' first | exact lr _ | assumption | refine ls ?_ ?_ | refine lt ?_ ?_ | simp only [*]; done | exact lf ‹_› (by simp only [*])) | simp -dsimp only [↓bp, bq, br, seval, tbTaleA, limA, *])
        all_goals (have hlt := (List.getElem?_eq_some_iff.1 hx).1)
        all_goals exact ⟨l.length - (i + 1), by omega, i + 1, by omega, rfl, rfl, h2⟩
      · have hd : decide (l = r) = false := decide_eq_false (take_ne hx hy hxy)
        have hne : ((x.toNat : Int) = y.toNat) = False := eq_false fun e => hxy (UInt32.toNat_inj.1 (by omega))
        rw [hd]
        clear hi hn hl hr hd hxy
        repeat' (first | refine xs ?_ ?_ <;> intros | ((first | refine xh ?_ | refine xi ?_); intro bx hbx; (try simp only [fb] at hbx)) | refine xj ?_ | ((with_reducible refine And.intro ?_ ?_); omega) | refine bo_buildSlice (d' := ⟨⟩) ?_ | refine xk (by kernel_rfl) ?_ | refine xf ?_ (by repeat' first | exact lr _ | assumption | refine ls ?_ ?_ | refine lt ?_ ?_ | simp only [*]; done | exact lf ‹_› (by simp only [*])) | simp -dsimp only [↓bp, bq, br, seval, tbTaleA, limA, *])
        all_goals rfl
    · have : i = l.length := by omega
      subst this
      have hd : decide (l = r) = true := decide_eq_true (take_end (by omega) htk)
      rw [hd]
      clear hi hn hl hr hd hn'
      repeat' (first | refine xs ?_ ?_ <;> intros | ((first | refine xh ?_ | refine xi ?_); intro bx hbx; (try simp only [fb] at hbx)) | refine xj ?_ | ((with_reducible refine And.intro ?_ ?_); omega) | refine bo_buildSlice (d' := ⟨⟩) ?_ | refine xk (by kernel_rfl) ?_ | refine xf ?_ (by repeat' first | exact lr _ | assumption | refine ls ?_ ?_ | refine lt ?_ ?_ | simp only [*]; done | exact lf ‹_› (by simp only [*])) | simp -dsimp only [↓bp, bq, br, seval, tbTaleA, *])
      all_goals rfl
  · have hd : decide (l = r) = false := decide_eq_false fun e => by subst e; exact hn rfl
    have hn' := eq_false hn
    rw [hd]
    clear hn hl hr hd
    refine Tri.of_awp mixed Tryz.func49 rfl (by kernel_rfl) (by kernel_rfl) (by simp [Tryz.ntmps49]) Tryz.results49 ?_
    repeat' (first | refine xs ?_ ?_ <;> intros | ((first | refine xh ?_ | refine xi ?_); intro bx hbx; (try simp only [fb] at hbx)) | refine xj ?_ | ((with_reducible refine And.intro ?_ ?_); omega) | refine bo_buildSlice (d' := ⟨⟩) ?_ | refine xk (by kernel_rfl) ?_ | refine xf ?_ (by repeat' first | exact lr _ | assumption | refine ls ?_ ?_ | refine lt ?_ ?_ | simp only [*]; done | exact lf ‹_› (by simp only [*])) | simp -dsimp only [↓bp, bq, br, seval, tbTaleA, *])
    all_goals rfl
theorem eqK_named : eqK Tryz.prog 46 = some [.str, .int .i64] := by kernel_rfl
theorem eqN_pure (l r : List Named) (hl : l.length ≤ 1000000000) (hr : r.length ≤ 1000000000) : Pure Tryz.prog G 24 [encN l, encN r] (.bool (decide (l = r))) := by
  intro σ
  by_cases hn : (l.length : Int) = r.length
  · have hn' := eq_true hn
    refine Tri.of_awp mixed Tryz.func24 rfl (by kernel_rfl) (by kernel_rfl) (by simp [Tryz.ntmps24]) Tryz.results24 ?_
    simp -dsimp only [↓bp, bq, br, seval, tbTaleA, hn']
    refine loop_keep mixed (fun n e => ∃ i : Nat, i ≤ (l).length ∧ n = (l).length - i ∧ e 13 = .int .i64 i ∧ l.take i = r.take i) (l).length
        ⟨0, by omega, by omega, by simp -dsimp only [↓bp, bq, br, seval, tbTaleA]; first | done | rfl, rfl⟩ ?_
    rintro n v ⟨i, hi, rfl, h13, htk⟩
    simp -dsimp only [↓bp, bq, br, seval, tbTaleA] at h13
    simp -dsimp only [↓bp, bq, br, seval, tbTaleA, h13]
    refine condW_dec (fun hlt => ?_) (fun hge => ?_)
    · obtain ⟨x, hx⟩ : ∃ x, l[i]? = some x := ⟨_, List.getElem?_eq_getElem (by omega)⟩
      obtain ⟨y, hy⟩ : ∃ y, r[i]? = some y := ⟨_, List.getElem?_eq_getElem (by omega)⟩
      have hw : IntKind.i64.wrap ((i : Int) + 1) = ((i + 1 : Nat) : Int) := by rw [wrap_nat (by omega) (by omega)]; rfl
      have hb : abin Tryz.prog .neq 46 x.enc y.enc = some (.bool (decide (¬ x = y))) := by
        have e : fldEq [.str, .int .i64] [.str x.name, .int .i64 x.pid] [.str y.name, .int .i64 y.pid] = some (decide (x.name = y.name) && (decide (x.pid = y.pid) && true)) := by
          rw [fe_str, fe_int, fe_nil]; rfl
        unfold Named.enc
        rw [abin_agg, eqK_named]
        simp only [Option.bind_some, e]
        have : (decide (x.name = y.name) && (decide (x.pid = y.pid) && true)) = decide (x = y) := by
          rw [Bool.eq_iff_iff]
          simp only [Bool.and_eq_true, decide_eq_true_eq, and_true]
          constructor
          · rintro ⟨h1, h2⟩; cases x; cases y; simp only at h1 h2; rw [h1, h2]
          · rintro rfl; exact ⟨rfl, rfl⟩
        rw [this]
        simp [aeq]
      by_cases hxy : x = y
      · subst hxy
        have h2 := take_same htk hx hy
        replace hb : abin Tryz.prog .neq 46 x.enc x.enc = some (.bool false) := by rw [hb]; simp
        clear hi hn hl hr
        repeat' (first | refine xs ?_ ?_ <;> intros | ((first | refine xh ?_ | refine xi ?_); intro bx hbx; (try simp only [fb] at hbx)) | refine xj ?_ | ((with_reducible refine And.intro ?_ ?_); omega) | refine bo_buildSlice (d' := ⟨⟩) ?_ | refine xk (by kernel_rfl) ?_ | refine xf ?_ (by repeat' first | exact lr _ | assumption | refine ls ?_ ?_ | refine lt ?_ ?_ | simp only [*]; done | exact lf ‹_› (by simp only [*])) | simp -dsimp only [↓bp, bq, br, seval, tbTaleA, *])
        all_goals (have hlt := (List.getElem?_eq_some_iff.1 hx).1)
        all_goals exact ⟨l.length - (i + 1), by omega, i + 1, by omega, rfl, rfl, h2⟩
      · have hd : decide (l = r) = false := decide_eq_false (take_ne hx hy hxy)
        replace hb : abin Tryz.prog .neq 46 x.enc y.enc = some (.bool true) := by rw [hb]; simp [hxy]
        rw [hd]
        clear hi hn hl hr hd hxy
        repeat' (first | refine xs ?_ ?_ <;> intros | ((first | refine xh ?_ | refine xi ?_); intro bx hbx; (try simp only [fb] at hbx)) | refine xj ?_ | ((with_reducible refine And.intro ?_ ?_); omega) | refine bo_buildSlice (d' := ⟨⟩) ?_ | refine xk (by kernel_rfl) ?_ | refine xf ?_ (by repeat' first | exact lr _ | assumption | refine ls ?_ ?_ | refine lt ?_ ?_ | simp only [*]; done | exact lf ‹_› (by simp only [*])) | simp -dsimp only [↓bp, bq, br, seval, tbTaleA, *])
        all_goals rfl
    · have : i = l.length := by omega
      subst this
      have hd : decide (l = r) = true := decide_eq_true (take_end (by omega) htk)
      rw [hd]
      clear hi hn hl hr hd hn'
      repeat' (first | refine xs ?_ ?_ <;> intros | ((first | refine xh ?_ | refine xi ?_); intro bx hbx; (try simp only [fb] at hbx)) | refine xj ?_ | ((with_reducible refine And.intro ?_ ?_); omega) | refine bo_buildSlice (d' := ⟨⟩) ?_ | refine xk (by kernel_rfl) ?_ | refine xf ?_ (by repeat' first | exact lr _ | assumption | refine ls ?_ ?_ | refine lt ?_ ?_ | simp only [*]; done | exact lf ‹_› (by simp only [*])) | simp -dsimp only [↓bp, bq, br, seval, tbTaleA, *])
      all_goals rfl
  · have hd : decide (l = r) = false := decide_eq_false fun e => by subst e; exact hn rfl
    have hn' := eq_false hn
    rw [hd]
    clear hn hl hr hd
    refine Tri.of_awp mixed Tryz.func24 rfl (by kernel_rfl) (by kernel_rfl) (by simp [Tryz.ntmps24]) Tryz.results24 ?_
    repeat' (first | refine xs ?_ ?_ <;> intros | ((first | refine xh ?_ | refine xi ?_); intro bx hbx; (try simp only [fb] at hbx)) | refine xj ?_ | ((with_reducible refine And.intro ?_ ?_); omega) | refine bo_buildSlice (d' := ⟨⟩) ?_ | refine xk (by kernel_rfl) ?_ | refine xf ?_ (by repeat' first | exact lr _ | assumption | refine ls ?_ ?_ | refine lt ?_ ?_ | simp only [*]; done | exact lf ‹_› (by simp only [*])) | simp -dsimp only [↓bp, bq, br, seval, tbTaleA, *])
    all_goals rfl
theorem sames_ne {l r : List Term} (h : l ≠ r) : sames l r = false := by rw [Bool.eq_false_iff]; exact fun e => h ((sames_iff l r).1 e)
theorem samesE_ne {l r : List Ended} (h : l ≠ r) : samesE l r = false := by rw [Bool.eq_false_iff]; exact fun e => h ((samesE_iff l r).1 e)
theorem eqf_pure (l r : List Term) (hl : l.length ≤ 1000000000) (hr : r.length ≤ 1000000000) (hf : ∀ x, x ∈ l → ∀ y, y ∈ r → Pure Tryz.prog G 26 [x.enc, y.enc] (.bool (same x y))) :
    Pure Tryz.prog G 50 [encs l, encs r, .fn 26 []] (.bool (sames l r)) := by
  intro σ
  by_cases hn : (l.length : Int) = r.length
  · have hn' := eq_true hn
    refine Tri.of_awp mixed Tryz.func50 rfl (by kernel_rfl) (by kernel_rfl) (by simp [Tryz.ntmps50]) Tryz.results50 ?_
    simp -dsimp only [↓bp, bq, br, seval, tbTaleA, hn']
    refine loop_intro (fun n e σ' => ∃ i : Nat, i ≤ (l).length ∧ n = (l).length - i ∧ e 17 = .int .i64 i ∧ σ.le σ' ∧ l.take i = r.take i) (l).length
        ⟨0, by omega, by omega, by simp -dsimp only [↓bp, bq, br, seval, tbTaleA]; first | done | rfl, AS.le.refl σ, rfl⟩ ?_
    rintro n v σ' ⟨i, hi, rfl, h17, ⟨hle, htk⟩⟩
    simp -dsimp only [↓bp, bq, br, seval, tbTaleA] at h17
    simp -dsimp only [↓bp, bq, br, seval, tbTaleA, h17]
    refine condW_dec (fun hlt => ?_) (fun hge => ?_)
    · obtain ⟨x, hx⟩ : ∃ x, l[i]? = some x := ⟨_, List.getElem?_eq_getElem (by omega)⟩
      obtain ⟨y, hy⟩ : ∃ y, r[i]? = some y := ⟨_, List.getElem?_eq_getElem (by omega)⟩
      have hw : IntKind.i64.wrap ((i : Int) + 1) = ((i + 1 : Nat) : Int) := by rw [wrap_nat (by omega) (by omega)]; rfl
      have hp := hf x (List.mem_of_getElem? hx) y (List.mem_of_getElem? hy)
      by_cases hxy : x = y
      · subst hxy
        have h2 := take_same htk hx hy
        rw [(same_iff x x).2 rfl] at hp
        clear hi hn hl hr hf
        repeat' (first | refine xs ?_ ?_ <;> intros | ((first | refine xh ?_ | refine xi ?_); intro bx hbx; (try simp only [fb] at hbx)) | refine Pure.use (hp) ?_ | refine Pure.head (hp) ?_ | refine xj ?_ | ((with_reducible refine And.intro ?_ ?_); omega) | refine bo_buildSlice (d' := ⟨⟩) ?_ | refine xk (by kernel_rfl) ?_ | refine xf ?_ (by repeat' first | exact lr _ | assumption | refine ls ?_ ?_ | refine lt ?_ ?_ | simp only [*]; done | exact lf ‹_› (by simp only [*])) | simp -dsimp only [↓bp, bq, br, seval, tbTaleA, *])
        all_goals (have hlt := (List.getElem?_eq_some_iff.1 hx).1)
        all_goals exact ⟨l.length - (i + 1), by omega, i + 1, by omega, rfl, rfl, by repeat' first | exact lr _ | assumption | refine ls ?_ ?_ | refine lt ?_ ?_ | simp only [*]; done | exact lf ‹_› (by simp only [*]), h2⟩
      · have hd := sames_ne (take_ne hx hy hxy)
        have hq : same x y = false := by rw [Bool.eq_false_iff]; exact fun e => hxy ((same_iff x y).1 e)
        rw [hq] at hp
        rw [hd]
        clear hi hn hl hr hd hxy hq hf
        repeat' (first | refine xs ?_ ?_ <;> intros | ((first | refine xh ?_ | refine xi ?_); intro bx hbx; (try simp only [fb] at hbx)) | refine Pure.use (hp) ?_ | refine Pure.head (hp) ?_ | refine xj ?_ | ((with_reducible refine And.intro ?_ ?_); omega) | refine bo_buildSlice (d' := ⟨⟩) ?_ | refine xk (by kernel_rfl) ?_ | refine xf ?_ (by repeat' first | exact lr _ | assumption | refine ls ?_ ?_ | refine lt ?_ ?_ | simp only [*]; done | exact lf ‹_› (by simp only [*])) | simp -dsimp only [↓bp, bq, br, seval, tbTaleA, *])
        all_goals rfl
    · have : i = l.length := by omega
      subst this
      have hd := (sames_iff l r).2 (take_end (by omega) htk)
      rw [hd]
      clear hi hn hl hr hd hn' hf
      repeat' (first | refine xs ?_ ?_ <;> intros | ((first | refine xh ?_ | refine xi ?_); intro bx hbx; (try simp only [fb] at hbx)) | refine xj ?_ | ((with_reducible refine And.intro ?_ ?_); omega) | refine bo_buildSlice (d' := ⟨⟩) ?_ | refine xk (by kernel_rfl) ?_ | refine xf ?_ (by repeat' first | exact lr _ | assumption | refine ls ?_ ?_ | refine lt ?_ ?_ | simp only [*]; done | exact lf ‹_› (by simp only [*])) | simp -dsimp only [↓bp, bq, br, seval, tbTaleA, *])
      all_goals rfl
  · have hd := sames_ne (l := l) (r := r) fun e => by subst e; exact hn rfl
    have hn' := eq_false hn
    rw [hd]
    clear hn hl hr hd hf
    refine Tri.of_awp mixed Tryz.func50 rfl (by kernel_rfl) (by kernel_rfl) (by simp [Tryz.ntmps50]) Tryz.results50 ?_
    repeat' (first | refine xs ?_ ?_ <;> intros | ((first | refine xh ?_ | refine xi ?_); intro bx hbx; (try simp only [fb] at hbx)) | refine xj ?_ | ((with_reducible refine And.intro ?_ ?_); omega) | refine bo_buildSlice (d' := ⟨⟩) ?_ | refine xk (by kernel_rfl) ?_ | refine xf ?_ (by repeat' first | exact lr _ | assumption | refine ls ?_ ?_ | refine lt ?_ ?_ | simp only [*]; done | exact lf ‹_› (by simp only [*])) | simp -dsimp only [↓bp, bq, br, seval, tbTaleA, *])
    all_goals rfl
theorem eqfE_pure (l r : List Ended) (hl : l.length ≤ 1000000000) (hr : r.length ≤ 1000000000) (hf : ∀ x, x ∈ l → ∀ y, y ∈ r → Pure Tryz.prog G 25 [x.enc, y.enc] (.bool (sameE x y))) :
    Pure Tryz.prog G 51 [encE l, encE r, .fn 25 []] (.bool (samesE l r)) := by
  intro σ
  by_cases hn : (l.length : Int) = r.length
  · have hn' := eq_true hn
    refine Tri.of_awp mixed Tryz.func51 rfl (by kernel_rfl) (by kernel_rfl) (by simp [Tryz.ntmps51]) Tryz.results51 ?_
    simp -dsimp only [↓bp, bq, br, seval, tbTaleA, hn']
    refine loop_intro (fun n e σ' => ∃ i : Nat, i ≤ (l).length ∧ n = (l).length - i ∧ e 17 = .int .i64 i ∧ σ.le σ' ∧ l.take i = r.take i) (l).length
        ⟨0, by omega, by omega, by simp -dsimp only [↓bp, bq, br, seval, tbTaleA]; first | done | rfl, AS.le.refl σ, rfl⟩ ?_
    rintro n v σ' ⟨i, hi, rfl, h17, ⟨hle, htk⟩⟩
    simp -dsimp only [↓bp, bq, br, seval, tbTaleA] at h17
    simp -dsimp only [↓bp, bq, br, seval, tbTaleA, h17]
    refine condW_dec (fun hlt => ?_) (fun hge => ?_)
    · obtain ⟨x, hx⟩ : ∃ x, l[i]? = some x := ⟨_, List.getElem?_eq_getElem (by omega)⟩
      obtain ⟨y, hy⟩ : ∃ y, r[i]? = some y := ⟨_, List.getElem?_eq_getElem (by omega)⟩
      have hw : IntKind.i64.wrap ((i : Int) + 1) = ((i + 1 : Nat) : Int) := by rw [wrap_nat (by omega) (by omega)]; rfl
      have hp := hf x (List.mem_of_getElem? hx) y (List.mem_of_getElem? hy)
      by_cases hxy : x = y
      · subst hxy
        have h2 := take_same htk hx hy
        rw [(sameE_iff x x).2 rfl] at hp
        clear hi hn hl hr hf
        repeat' (first | refine xs ?_ ?_ <;> intros | ((first | refine xh ?_ | refine xi ?_); intro bx hbx; (try simp only [fb] at hbx)) | refine Pure.use (hp) ?_ | refine Pure.head (hp) ?_ | refine xj ?_ | ((with_reducible refine And.intro ?_ ?_); omega) | refine bo_buildSlice (d' := ⟨⟩) ?_ | refine xk (by kernel_rfl) ?_ | refine xf ?_ (by repeat' first | exact lr _ | assumption | refine ls ?_ ?_ | refine lt ?_ ?_ | simp only [*]; done | exact lf ‹_› (by simp only [*])) | simp -dsimp only [↓bp, bq, br, seval, tbTaleA, *])
        all_goals (have hlt := (List.getElem?_eq_some_iff.1 hx).1)
        all_goals exact ⟨l.length - (i + 1), by omega, i + 1, by omega, rfl, rfl, by repeat' first | exact lr _ | assumption | refine ls ?_ ?_ | refine lt ?_ ?_ | simp only [*]; done | exact lf ‹_› (by simp only [*]), h2⟩
      · have hd := samesE_ne (take_ne hx hy hxy)
        have hq : sameE x y = false := by rw [Bool.eq_false_iff]; exact fun e => hxy ((sameE_iff x y).1 e)
        rw [hq] at hp
        rw [hd]
        clear hi hn hl hr hd hxy hq hf
        repeat' (first | refine xs ?_ ?_ <;> intros | ((first | refine xh ?_ | refine xi ?_); intro bx hbx; (try simp only [fb] at hbx)) | refine Pure.use (hp) ?_ | refine Pure.head (hp) ?_ | refine xj ?_ | ((with_reducible refine And.intro ?_ ?_); omega) | refine bo_buildSlice (d' := ⟨⟩) ?_ | refine xk (by kernel_rfl) ?_ | refine xf ?_ (by repeat' first | exact lr _ | assumption | refine ls ?_ ?_ | refine lt ?_ ?_ | simp only [*]; done | exact lf ‹_› (by simp only [*])) | simp -dsimp only [↓bp, bq, br, seval, tbTaleA, *])
        all_goals rfl
    · have : i = l.length := by omega
      subst this
      have hd := (samesE_iff l r).2 (take_end (by omega) htk)
      rw [hd]
      clear hi hn hl hr hd hn' hf
      repeat' (first | refine xs ?_ ?_ <;> intros | ((first | refine xh ?_ | refine xi ?_); intro bx hbx; (try simp only [fb] at hbx)) | refine xj ?_ | ((with_reducible refine And.intro ?_ ?_); omega) | refine bo_buildSlice (d' := ⟨⟩) ?_ | refine xk (by kernel_rfl) ?_ | refine xf ?_ (by repeat' first | exact lr _ | assumption | refine ls ?_ ?_ | refine lt ?_ ?_ | simp only [*]; done | exact lf ‹_› (by simp only [*])) | simp -dsimp only [↓bp, bq, br, seval, tbTaleA, *])
      all_goals rfl
  · have hd := samesE_ne (l := l) (r := r) fun e => by subst e; exact hn rfl
    have hn' := eq_false hn
    rw [hd]
    clear hn hl hr hd hf
    refine Tri.of_awp mixed Tryz.func51 rfl (by kernel_rfl) (by kernel_rfl) (by simp [Tryz.ntmps51]) Tryz.results51 ?_
    repeat' (first | refine xs ?_ ?_ <;> intros | ((first | refine xh ?_ | refine xi ?_); intro bx hbx; (try simp only [fb] at hbx)) | refine xj ?_ | ((with_reducible refine And.intro ?_ ?_); omega) | refine bo_buildSlice (d' := ⟨⟩) ?_ | refine xk (by kernel_rfl) ?_ | refine xf ?_ (by repeat' first | exact lr _ | assumption | refine ls ?_ ?_ | refine lt ?_ ?_ | simp only [*]; done | exact lf ‹_› (by simp only [*])) | simp -dsimp only [↓bp, bq, br, seval, tbTaleA, *])
    all_goals rfl
theorem alike_pure (t : Term) : ∀ u : Term, t.bulk ≤ 1000000000 → u.bulk ≤ 1000000000 → Pure Tryz.prog G 26 [t.enc, u.enc] (.bool (same t u)) := by
  refine Term.ind (P := fun t => ∀ u : Term, t.bulk ≤ 1000000000 → u.bulk ≤ 1000000000 → Pure Tryz.prog G 26 [t.enc, u.enc] (.bool (same t u))) (fun t ih1 ih2 u ht hu => ?_) t
  have h1 := eqf_pure G t.items u.items (by have := len_items t; omega) (by have := len_items u; omega) (fun x hx y hy => ih1 x hx y (by have := bulk_item hx; omega) (by have := bulk_item hy; omega))
  have h2 := eqf_pure G t.tail u.tail (by have := len_tail t; omega) (by have := len_tail u; omega) (fun x hx y hy => ih2 x hx y (by have := bulk_tail hx; omega) (by have := bulk_tail hy; omega))
  have h3 := eqL_pure G t.limbs u.limbs (by have := len_limbs t; omega) (by have := len_limbs u; omega)
  clear ih1 ih2 ht hu
  intro σ
  refine Tri.of_awp mixed Tryz.func26 rfl (by kernel_rfl) (by kernel_rfl) (by simp [Tryz.ntmps26]) Tryz.results26 ?_
  repeat' (first | refine xs ?_ ?_ <;> intros | ((first | refine xh ?_ | refine xi ?_); intro bx hbx; (try simp only [fb] at hbx)) | refine Pure.use (h1) ?_ | refine Pure.head (h1) ?_ | refine Pure.use (h2) ?_ | refine Pure.head (h2) ?_ | refine Pure.use (h3) ?_ | refine Pure.head (h3) ?_ | refine xj ?_ | ((with_reducible refine And.intro ?_ ?_); omega) | refine bo_buildSlice (d' := ⟨⟩) ?_ | refine xk (by kernel_rfl) ?_ | refine xf ?_ (by repeat' first | exact lr _ | assumption | refine ls ?_ ?_ | refine lt ?_ ?_ | simp only [*]; done | exact lf ‹_› (by simp only [*])) | simp -dsimp only [↓bp, bq, br, seval, tbTaleA, *])
  all_goals (first | (simp only [same_eq, *, Bool.and_true, Bool.true_and, Bool.and_false, Bool.false_and, Bool.or_true, Bool.true_or, Bool.or_false, Bool.false_or, Bool.not_true, Bool.not_false, if_true, if_false, Bool.and_self, Bool.or_self]; done) | (simp [same_eq, *]; done) | (simp_all [same_eq]; done))
theorem endeq_pure (x y : Ended) (hx : x.reason.bulk ≤ 1000000000) (hy : y.reason.bulk ≤ 1000000000) : Pure Tryz.prog G 25 [x.enc, y.enc] (.bool (sameE x y)) := by
  have hp := alike_pure G x.reason y.reason hx hy
  unfold sameE
  clear hx hy
  intro σ
  refine Tri.of_awp mixed Tryz.func25 rfl (by kernel_rfl) (by kernel_rfl) (by simp [Tryz.ntmps25]) Tryz.results25 ?_
  repeat' (first | refine xs ?_ ?_ <;> intros | ((first | refine xh ?_ | refine xi ?_); intro bx hbx; (try simp only [fb] at hbx)) | refine Pure.use (hp) ?_ | refine Pure.head (hp) ?_ | refine xj ?_ | ((with_reducible refine And.intro ?_ ?_); omega) | refine bo_buildSlice (d' := ⟨⟩) ?_ | refine xk (by kernel_rfl) ?_ | refine xf ?_ (by repeat' first | exact lr _ | assumption | refine ls ?_ ?_ | refine lt ?_ ?_ | simp only [*]; done | exact lf ‹_› (by simp only [*])) | simp -dsimp only [↓bp, bq, br, seval, tbTaleA, *])
  all_goals (first | (simp only [sameE, *, Bool.and_true, Bool.true_and, Bool.and_false, Bool.false_and, Bool.or_true, Bool.true_or, Bool.or_false, Bool.false_or, Bool.not_true, Bool.not_false, if_true, if_false, Bool.and_self, Bool.or_self]; done) | (simp [sameE, *]; done) | (simp_all [sameE]; done))
theorem tkT : ((el Tryz.prog 22).bind (tk Tryz.prog)) = some (true, 7) := by kernel_rfl
theorem tkE : ((el Tryz.prog 23).bind (tk Tryz.prog)) = some (true, 8) := by kernel_rfl
theorem beg_pure (l r : List Term) (hl : bulks l ≤ 1000000000) (hr : bulks r ≤ 1000000000) : Pure Tryz.prog G 27 [encs l, encs r, .fn 26 []] (.bool (pre l r)) := by
  have l1 := len_le_bulks l
  have l2 := len_le_bulks r
  intro σ
  by_cases h : (l.length : Int) ≤ r.length
  · have hp := eqf_pure G l (r.take l.length) (by omega) (by rw [List.length_take]; omega) (fun x hx y hy => alike_pure G x y (by have := bulk_mem hx; omega) (by have := bulk_mem (List.mem_of_mem_take hy); omega))
    have e : pre l r = sames l (r.take l.length) := by unfold pre; rw [decide_eq_true h, Bool.true_and]
    rw [e]
    clear e l1 l2 hl hr
    have hs : aslice Tryz.prog 22 (encs r) none (some (.int .i64 l.length)) = some (encs (r.take l.length)) := by
      rw [sl_encs _ _ _ tkT]
      have e1 : abnd (some (.int .i64 (l.length : Int))) r.length = some l.length := by simp [abnd]
      have e2 : abnd none 0 = some 0 := rfl
      rw [e1, e2]
      simp only [List.drop_zero]
      rw [if_pos ⟨by omega, by omega⟩]
    have h := eq_true h
    generalize sames l (r.take l.length) = z at *
    refine Tri.of_awp mixed Tryz.func27 rfl (by kernel_rfl) (by kernel_rfl) (by simp [Tryz.ntmps27]) Tryz.results27 ?_
    repeat' (first | refine xs ?_ ?_ <;> intros | ((first | refine xh ?_ | refine xi ?_); intro bx hbx; (try simp only [fb] at hbx)) | refine Pure.use (hp) ?_ | refine Pure.head (hp) ?_ | refine xj ?_ | ((with_reducible refine And.intro ?_ ?_); omega) | refine bo_buildSlice (d' := ⟨⟩) ?_ | refine xk (by kernel_rfl) ?_ | refine xf ?_ (by repeat' first | exact lr _ | assumption | refine ls ?_ ?_ | refine lt ?_ ?_ | simp only [*]; done | exact lf ‹_› (by simp only [*])) | simp -dsimp only [↓bp, bq, br, seval, tbTaleA, *])
    all_goals rfl
  · have e : pre l r = false := by unfold pre; rw [decide_eq_false h, Bool.false_and]
    rw [e]
    clear e l1 l2 hl hr
    have h := eq_false h
    refine Tri.of_awp mixed Tryz.func27 rfl (by kernel_rfl) (by kernel_rfl) (by simp [Tryz.ntmps27]) Tryz.results27 ?_
    repeat' (first | refine xs ?_ ?_ <;> intros | ((first | refine xh ?_ | refine xi ?_); intro bx hbx; (try simp only [fb] at hbx)) | refine xj ?_ | ((with_reducible refine And.intro ?_ ?_); omega) | refine bo_buildSlice (d' := ⟨⟩) ?_ | refine xk (by kernel_rfl) ?_ | refine xf ?_ (by repeat' first | exact lr _ | assumption | refine ls ?_ ?_ | refine lt ?_ ?_ | simp only [*]; done | exact lf ‹_› (by simp only [*])) | simp -dsimp only [↓bp, bq, br, seval, tbTaleA, *])
    all_goals rfl
theorem begE_pure (l r : List Ended) (hl : bulkE l ≤ 1000000000) (hr : bulkE r ≤ 1000000000) : Pure Tryz.prog G 28 [encE l, encE r, .fn 25 []] (.bool (preE l r)) := by
  have l1 := lenE_le l
  have l2 := lenE_le r
  intro σ
  by_cases h : (l.length : Int) ≤ r.length
  · have hp := eqfE_pure G l (r.take l.length) (by omega) (by rw [List.length_take]; omega) (fun x hx y hy => endeq_pure G x y (by have := bulkE_mem hx; omega) (by have := bulkE_mem (List.mem_of_mem_take hy); omega))
    have e : preE l r = samesE l (r.take l.length) := by unfold preE; rw [decide_eq_true h, Bool.true_and]
    rw [e]
    clear e l1 l2 hl hr
    have hs : aslice Tryz.prog 23 (encE r) none (some (.int .i64 l.length)) = some (encE (r.take l.length)) := by
      rw [sl_encE _ _ _ tkE]
      have e1 : abnd (some (.int .i64 (l.length : Int))) r.length = some l.length := by simp [abnd]
      have e2 : abnd none 0 = some 0 := rfl
      rw [e1, e2]
      simp only [List.drop_zero]
      rw [if_pos ⟨by omega, by omega⟩]
    have h := eq_true h
    generalize samesE l (r.take l.length) = z at *
    refine Tri.of_awp mixed Tryz.func28 rfl (by kernel_rfl) (by kernel_rfl) (by simp [Tryz.ntmps28]) Tryz.results28 ?_
    repeat' (first | refine xs ?_ ?_ <;> intros | ((first | refine xh ?_ | refine xi ?_); intro bx hbx; (try simp only [fb] at hbx)) | refine Pure.use (hp) ?_ | refine Pure.head (hp) ?_ | refine xj ?_ | ((with_reducible refine And.intro ?_ ?_); omega) | refine bo_buildSlice (d' := ⟨⟩) ?_ | refine xk (by kernel_rfl) ?_ | refine xf ?_ (by repeat' first | exact lr _ | assumption | refine ls ?_ ?_ | refine lt ?_ ?_ | simp only [*]; done | exact lf ‹_› (by simp only [*])) | simp -dsimp only [↓bp, bq, br, seval, tbTaleA, *])
    all_goals rfl
  · have e : preE l r = false := by unfold preE; rw [decide_eq_false h, Bool.false_and]
    rw [e]
    clear e l1 l2 hl hr
    have h := eq_false h
    refine Tri.of_awp mixed Tryz.func28 rfl (by kernel_rfl) (by kernel_rfl) (by simp [Tryz.ntmps28]) Tryz.results28 ?_
    repeat' (first | refine xs ?_ ?_ <;> intros | ((first | refine xh ?_ | refine xi ?_); intro bx hbx; (try simp only [fb] at hbx)) | refine xj ?_ | ((with_reducible refine And.intro ?_ ?_); omega) | refine bo_buildSlice (d' := ⟨⟩) ?_ | refine xk (by kernel_rfl) ?_ | refine xf ?_ (by repeat' first | exact lr _ | assumption | refine ls ?_ ?_ | refine lt ?_ ?_ | simp only [*]; done | exact lf ‹_› (by simp only [*])) | simp -dsimp only [↓bp, bq, br, seval, tbTaleA, *])
    all_goals rfl
theorem within_pure (a b : Seen) (ha : a.bulk ≤ 100000000) (hb : b.bulk ≤ 100000000) : Pure Tryz.prog G 9 [a.enc, b.enc] (.bool (within a b)) := by
  unfold Seen.bulk at ha hb
  have h1 := beg_pure G a.out b.out (by omega) (by omega)
  have h2 := begE_pure G a.ended b.ended (by omega) (by omega)
  clear ha hb
  intro σ
  refine Tri.of_awp mixed Tryz.func9 rfl (by kernel_rfl) (by kernel_rfl) (by simp [Tryz.ntmps9]) Tryz.results9 ?_
  repeat' (first | refine xs ?_ ?_ <;> intros | ((first | refine xh ?_ | refine xi ?_); intro bx hbx; (try simp only [fb] at hbx)) | refine Pure.use (h1) ?_ | refine Pure.head (h1) ?_ | refine Pure.use (h2) ?_ | refine Pure.head (h2) ?_ | refine xj ?_ | ((with_reducible refine And.intro ?_ ?_); omega) | refine bo_buildSlice (d' := ⟨⟩) ?_ | refine xk (by kernel_rfl) ?_ | refine xf ?_ (by repeat' first | exact lr _ | assumption | refine ls ?_ ?_ | refine lt ?_ ?_ | simp only [*]; done | exact lf ‹_› (by simp only [*])) | simp -dsimp only [↓bp, bq, br, seval, tbTaleA, *])
  all_goals (first | (simp only [within, *, Bool.and_true, Bool.true_and, Bool.and_false, Bool.false_and, Bool.or_true, Bool.true_or, Bool.or_false, Bool.false_or, Bool.not_true, Bool.not_false, if_true, if_false, Bool.and_self, Bool.or_self]; done) | (simp [within, *]; done) | (simp_all [within]; done))
theorem sameS_pure (a b : Seen) (ha : a.bulk ≤ 100000000) (hb : b.bulk ≤ 100000000) : Pure Tryz.prog G 8 [a.enc, b.enc] (.bool (sameS a b)) := by
  have h1 := within_pure G a b ha hb
  have h2 := within_pure G b a hb ha
  unfold Seen.bulk at ha hb
  have h3 := eqN_pure G a.names b.names (by have := lenN_le a.names; omega) (by have := lenN_le b.names; omega)
  clear ha hb
  intro σ
  refine Tri.of_awp mixed Tryz.func8 rfl (by kernel_rfl) (by kernel_rfl) (by simp [Tryz.ntmps8]) Tryz.results8 ?_
  repeat' (first | refine xs ?_ ?_ <;> intros | ((first | refine xh ?_ | refine xi ?_); intro bx hbx; (try simp only [fb] at hbx)) | refine Pure.use (h1) ?_ | refine Pure.head (h1) ?_ | refine Pure.use (h2) ?_ | refine Pure.head (h2) ?_ | refine Pure.use (h3) ?_ | refine Pure.head (h3) ?_ | refine xj ?_ | ((with_reducible refine And.intro ?_ ?_); omega) | refine bo_buildSlice (d' := ⟨⟩) ?_ | refine xk (by kernel_rfl) ?_ | refine xf ?_ (by repeat' first | exact lr _ | assumption | refine ls ?_ ?_ | refine lt ?_ ?_ | simp only [*]; done | exact lf ‹_› (by simp only [*])) | simp -dsimp only [↓bp, bq, br, seval, tbTaleA, *])
  all_goals (first | (simp only [sameS, *, Bool.and_true, Bool.true_and, Bool.and_false, Bool.false_and, Bool.or_true, Bool.true_or, Bool.or_false, Bool.false_or, Bool.not_true, Bool.not_false, if_true, if_false, Bool.and_self, Bool.or_self]; done) | (simp [sameS, *]; done) | (simp_all [sameS]; done))
end Go.Proofs.YtphnoaihojccbaaGreatDoor
set_option maxRecDepth 20000
namespace Go.Proofs.YtphnoaihojccbaaGreatDoor
open Go Go.Av
def tbTermLent := And.intro (And.intro (And.intro (And.intro @tf3 @tf4) (And.intro @tf5 (And.intro @tf85 @tf9))) (And.intro (And.intro @tf40 (And.intro @tf39 @tf22)) (And.intro @tf42 (And.intro @Term.flat_enc @Term.isv_enc)))) (And.intro (And.intro (And.intro @Term.fold_enc (And.intro @isv_encs @flat_encs)) (And.intro @len_encs (And.intro @ix_encs @ix_encs'))) (And.intro (And.intro @isv_lims (And.intro @flat_lims @len_lims)) (And.intro @ix_lims (And.intro @ix_lims' @flat_limA))))
variable (G : Nat → AV)
def markT (k i : Int) : Term := .mk 0 false [] [] (markI k i) [] []
theorem enc_nil (k : UInt8) (g : Bool) (s : List UInt8) (n : Int) : Le (.agg [.int .u8 k.toNat, .bool g, .nil, .str s, .int .i64 n, .nil, .nil]) (Term.mk k g [] s n [] []).enc := by
  have e : (Term.mk k g [] s n [] []).enc = .agg [.int .u8 k.toNat, .bool g, .sl .none [] [], .str s, .int .i64 n, .sl .none [] [], .sl .none [] []] := by simp [Term.enc, lims]
  rw [e]
  exact Le.agg (.cons (Le.refl _) (.cons (Le.refl _) (.cons Le.nil (.cons (Le.refl _) (.cons (Le.refl _) (.cons Le.nil (.cons Le.nil .nil))))))) (fun d hd => by simp at hd; rcases hd with rfl | rfl | rfl | rfl | rfl | rfl <;> rfl)
theorem markTerm_pure (k i : Int) : Pure Tryz.prog G 45 [.int .i64 k, .int .i64 i] (markT k i).enc := by
  refine Pure.tellLess (v := .agg [.int .u8 0, .bool false, .nil, .str [], .int .i64 (markI k i), .nil, .nil]) ?_ (enc_nil 0 false [] _)
  intro σ
  refine Tri.of_awp mixed Tryz.func45 rfl (by kernel_rfl) (by kernel_rfl) (by simp [Tryz.ntmps45]) Tryz.results45 ?_
  repeat' (first | refine xs ?_ ?_ <;> intros | ((first | refine xh ?_ | refine xi ?_); intro bx hbx; (try simp only [fb] at hbx)) | refine Pure.use (by apply mark_pure <;> (first | assumption | omega | (simp only [*]; done))) ?_ | refine xj ?_ | ((with_reducible refine And.intro ?_ ?_); omega) | refine bo_buildSlice (d' := ⟨⟩) ?_ | refine xk (by kernel_rfl) ?_ | refine xf ?_ (by repeat' first | exact lr _ | assumption | refine ls ?_ ?_ | refine lt ?_ ?_ | simp only [*]; done | exact lf ‹_› (by simp only [*])) | simp -dsimp only [↓bp, bq, br, seval, tbTermLent, *])
  all_goals rfl
def marksTo (k i : Nat) : List AV := (List.range i).map fun (i : Nat) => (markT k (i : Int)).enc
theorem marksTo_succ (k i : Nat) : marksTo k (i + 1) = marksTo k i ++ [(markT k (i : Int)).enc] := by simp [marksTo, List.range_succ]
theorem marksTo_len (k i : Nat) : (marksTo k i).length = i := by simp [marksTo]
def marks : List AV := marksTo 1 12
def Term.lent : Term → AV
  | .mk k g l s n ks ts => .agg [.int .u8 k.toNat, .bool g, lentLims l, .str s, .int .i64 n, .sl .none (ks.map Term.lent) marks, .sl .none (ts.map Term.lent) marks]
def lents (l : List Term) : AV := .sl .none (l.map Term.lent) marks
theorem Term.flat_lent (t : Term) : flat t.lent = [.int .u8 t.knd, .bool t.neg, lentLims t.limbs, .str t.text, .int .i64 t.num, lents t.items, lents t.tail] := by
  cases t; simp [Term.lent, flat, Term.knd, Term.kind, Term.neg, Term.limbs, Term.text, Term.num, Term.items, Term.tail, lents]
theorem Term.isv_lent (t : Term) : isv t.lent = true := by cases t; simp [Term.lent, isv]
theorem isv_lents (l : List Term) : isv (lents l) = true := rfl
theorem flat_lents (l : List Term) : flat (lents l) = [lents l] := rfl
theorem Term.fold_lent (t : Term) : AV.agg [.int .u8 t.knd, .bool t.neg, lentLims t.limbs, .str t.text, .int .i64 t.num, lents t.items, lents t.tail] = t.lent := by
  cases t; simp [Term.lent, Term.knd, Term.kind, Term.neg, Term.limbs, Term.text, Term.num, Term.items, Term.tail, lents]
theorem lent_leE (t : Term) : LeE t.lent t.enc := by
  refine Term.ind (P := fun t => LeE t.lent t.enc) (fun t ih1 ih2 => ?_) t
  refine ⟨?_, t.isv_enc, ones t⟩
  rw [t.flat_lent, t.flat_enc]
  exact .cons (Le.refl _) (.cons (Le.refl _) (.cons (lentLims_le _) (.cons (Le.refl _) (.cons (Le.refl _) (.cons (Le.trans Le.spare (Le.sl (LeEs.map _ ih1))) (.cons (Le.trans Le.spare (Le.sl (LeEs.map _ ih2))) .nil))))))
theorem LeE.le {a b : Term} (h : Les (flat a.lent) (flat b.enc)) : Le a.lent b.enc := by
  rw [← a.fold_lent, ← b.fold_enc]
  rw [a.flat_lent, b.flat_enc] at h
  exact Le.agg h (fun d hd => by simp at hd; rcases hd with rfl | rfl | rfl | rfl | rfl | rfl | rfl <;> rfl)
theorem lent_le (t : Term) : Le t.lent t.enc := LeE.le (lent_leE t).cells
theorem lents_le (l : List Term) : Le (lents l) (encs l) := Le.trans Le.spare (Le.sl (LeEs.map _ fun x _ => lent_leE x))
theorem flat7l {l : List Term} : ∀ a, a ∈ l.map Term.lent → (flat a).length = 7 := fun a ha => by
  obtain ⟨x, _, rfl⟩ := List.mem_map.1 ha
  rw [x.flat_lent]; rfl
theorem tfN : aelt Tryz.prog 22 = some (42, 7, 104) := tf22.2.2.2.2.2.2
theorem tfE : el Tryz.prog 22 = some 42 := tf22.2.2.2.1
theorem lents_pure (l : List Term) (hl : l.length ≤ 1000000000) (hf : ∀ x, x ∈ l → Pure Tryz.prog G 44 [x.enc] x.lent) : Pure Tryz.prog G 21 [encs l] (lents l) := by
  refine Pure.of_le fun σ => ?_
  have hw0 : IntKind.i64.wrap ((l.length : Int) + 12) = l.length + 12 := wrap_nat (by omega) (by omega)
  refine Tri.of_awp mixed Tryz.func21 rfl (by kernel_rfl) (by kernel_rfl) (by simp [Tryz.ntmps21]) Tryz.results21 ?_
  simp -dsimp only [↓bp, bq, br, seval, tbTermLent, hw0]
  refine make_buf tfN (by omega) (by omega) (AS.le.refl σ) (fun v σ1 hB1 hx1 => ?_)
  simp -dsimp only [↓bp, bq, br, seval, tbTermLent]
  refine loop_intro (fun n e σ' => ∃ (i : Nat) (v : AV), i ≤ l.length ∧ n = l.length - i ∧ e 4 = .int .i64 i ∧ e 3 = v ∧ Buf 7 σ σ' v ((l.take i).map Term.lent)) l.length
    ⟨0, v, by omega, by omega, by simp -dsimp only [↓bp, bq, br, seval, tbTermLent]; try rfl, by simp -dsimp only [↓bp, bq, br, seval, tbTermLent], by simpa using hB1⟩ ?_
  rintro n e1 σ2 ⟨i, v2, hi, rfl, h4, h3, hB2⟩
  simp -dsimp only [↓bp, bq, br, seval, tbTermLent] at h4 h3
  simp -dsimp only [↓bp, bq, br, seval, tbTermLent, h4, h3]
  refine condW_dec (fun hlt => ?_) (fun hge => ?_)
  · obtain ⟨k, hk⟩ : ∃ k, l[i]? = some k := ⟨_, List.getElem?_eq_getElem (by omega)⟩
    have hkm : k ∈ l := List.mem_of_getElem? hk
    simp -dsimp only [↓bp, bq, br, seval, tbTermLent, h4, h3, hk]
    refine Pure.use (hf k hkm) ?_
    simp -dsimp only [↓bp, bq, br, seval, tbTermLent, h4, h3]
    refine newT_plain fun c hc => ?_
    simp -dsimp only [↓bp, bq, br, seval, tbTermLent, h4, h3, Term.flat_lent, Term.isv_lent, Term.fold_lent]
    refine build_one tfN (Term.isv_lent k) (by rw [k.flat_lent]; rfl) (by omega) ?_
    simp -dsimp only [↓bp, bq, br, seval, tbTermLent, h4, h3]
    refine app_buf (ys := [k.lent]) (hB2.newBox hc _) tfN (asrc_sl tfE) (fun a ha => by simp at ha; subst ha; rw [k.flat_lent]; rfl) (by simp; omega) (fun v3 σ3 hB4 hx4 => ?_)
    simp -dsimp only [↓bp, bq, br, seval, tbTermLent, h4, h3]
    refine ⟨l.length - (i + 1), by omega, i + 1, v3, by omega, rfl, ?_, rfl, ?_⟩
    · rw [wrap_nat (by omega) (by omega)]; rfl
    · rw [take_succ_get _ _ _ hk, List.map_append]; exact hB4
  · have : i = l.length := by omega
    subst this
    simp -dsimp only [↓bp, bq, br, seval, tbTermLent, h4, h3]
    rw [List.take_length] at hB2
    refine loop_intro (fun n e σ' => ∃ (i : Nat) (v : AV), i ≤ 12 ∧ n = 12 - i ∧ e 6 = .int .i64 i ∧ e 3 = v ∧ Buf 7 σ σ' v (l.map Term.lent ++ marksTo 1 i)) 12
      ⟨0, v2, by omega, by omega, by simp -dsimp only [↓bp, bq, br, seval, tbTermLent]; try rfl, by simp -dsimp only [↓bp, bq, br, seval, tbTermLent, h3], by simpa [marksTo] using hB2⟩ ?_
    rintro n e2 σ3 ⟨i, v3, hi2, rfl, h6, h3', hB3⟩
    simp -dsimp only [↓bp, bq, br, seval, tbTermLent] at h6 h3'
    simp -dsimp only [↓bp, bq, br, seval, tbTermLent, h6, h3', h4]
    refine condW_dec (fun hlt => ?_) (fun hge => ?_)
    · simp -dsimp only [↓bp, bq, br, seval, tbTermLent, h6, h3', h4]
      refine Pure.use (markTerm_pure G 1 i) ?_
      simp -dsimp only [↓bp, bq, br, seval, tbTermLent, h6, h3', h4]
      refine build_one tfN (Term.isv_enc _) (by rw [Term.flat_enc]; rfl) (by omega) ?_
      simp -dsimp only [↓bp, bq, br, seval, tbTermLent, h6, h3', h4]
      refine app_buf (ys := [(markT 1 (i : Int)).enc]) hB3 tfN (asrc_sl tfE) (fun a ha => by simp at ha; subst ha; rw [Term.flat_enc]; rfl) (by simp [marksTo_len]; omega) (fun v4 σ4 hB4 hx4 => ?_)
      simp -dsimp only [↓bp, bq, br, seval, tbTermLent, h6, h3', h4]
      refine ⟨12 - (i + 1), by omega, i + 1, v4, by omega, rfl, ?_, rfl, ?_⟩
      · rw [wrap_nat (by omega) (by omega)]; rfl
      · rw [marksTo_succ, ← List.append_assoc]; exact hB4
    · have : i = 12 := by omega
      subst this
      simp -dsimp only [↓bp, bq, br, seval, tbTermLent, h6, h3', h4]
      rcases hB3.isNil with ⟨hn, _⟩ | ⟨b, hb⟩
      · have := congrArg List.length hn; simp [marksTo_len] at this
      · subst hb
        refine piece (l := 0) (h := l.length) tfE tf42.1 rfl (by simp [abnd]) (by omega) (by simp) (fun a ha => ?_) (fun g' => ?_)
        · rw [List.append_nil] at ha
          cases hB3 with
          | own _ _ _ _ _ hx => exact hx a ha
        · simp -dsimp only [↓bp, bq, br, seval, tbTermLent, h6, h3', h4]
          refine finish_le ?_ hB3.le
          have e1 : (l.map Term.lent ++ marksTo 1 12).take l.length = l.map Term.lent := by
            rw [List.take_append_of_le_length (by simp), List.take_of_length_le (by simp)]
          have e2 : (l.map Term.lent ++ marksTo 1 12).drop l.length = marks := by
            rw [List.drop_append_of_le_length (by simp), List.drop_eq_nil_of_le (by simp)]; rfl
          rw [e1, e2]
          exact Le.gh
theorem lent_pure (t : Term) (hb : t.bulk ≤ 1000000000) : Pure Tryz.prog G 44 [t.enc] t.lent := by
  revert hb
  refine Term.ind (P := fun t => t.bulk ≤ 1000000000 → Pure Tryz.prog G 44 [t.enc] t.lent) (fun t ih1 ih2 hb => ?_) t
  have hl1 := lents_pure G t.items (by have := len_items t; omega) (fun x hx => ih1 x hx (by have := bulk_item hx; omega))
  have hl2 := lents_pure G t.tail (by have := len_tail t; omega) (fun x hx => ih2 x hx (by have := bulk_tail hx; omega))
  have hl3 := lentlims_pure G t.limbs (by have := len_limbs t; omega)
  intro σ
  refine Tri.of_awp mixed Tryz.func44 rfl (by kernel_rfl) (by kernel_rfl) (by simp [Tryz.ntmps44]) Tryz.results44 ?_
  repeat' (first | refine xs ?_ ?_ <;> intros | ((first | refine xh ?_ | refine xi ?_); intro bx hbx; (try simp only [fb] at hbx)) | refine Pure.use (hl1) ?_ | refine Pure.head (hl1) ?_ | refine Pure.use (hl2) ?_ | refine Pure.head (hl2) ?_ | refine Pure.use (hl3) ?_ | refine Pure.head (hl3) ?_ | refine xj ?_ | ((with_reducible refine And.intro ?_ ?_); omega) | refine bo_buildSlice (d' := ⟨⟩) ?_ | refine xk (by kernel_rfl) ?_ | refine xf ?_ (by repeat' first | exact lr _ | assumption | refine ls ?_ ?_ | refine lt ?_ ?_ | simp only [*]; done | exact lf ‹_› (by simp only [*])) | simp -dsimp only [↓bp, bq, br, seval, tbTermLent, Term.isv_lent, Term.flat_lent, Term.fold_lent, isv_lents, flat_lents, isv_lentLims, flat_lentLims, *])
  all_goals rfl
theorem sl_lents {t : TypeId} (l : List Term) (h : Int) (hh : h = l.length + 12) (ht : t = 22) {K : AV → Prop} {d : Dum K} (hK : ∀ g, K (.sl g (l.map Term.lent ++ marks) [])) : bo (aslice Tryz.prog t (lents l) none (some (.int .i64 h))) K d := by
  subst hh ht
  refine piece (l := 0) (h := l.length + 12) tfE tf42.1 rfl (by simp [abnd]; omega) (by omega) (by simp [marks, marksTo_len]) (fun a ha => ?_) (fun g' => ?_)
  · rcases List.mem_append.1 ha with ha | ha
    · exact flat7l a ha
    · obtain ⟨i, _, rfl⟩ := List.mem_map.1 ha
      rw [Term.flat_enc]; rfl
  · have e1 : ((l.map Term.lent ++ marks).take (l.length + 12)).drop 0 = l.map Term.lent ++ marks := by
      rw [List.drop_zero, List.take_of_length_le (by simp [marks, marksTo_len])]
    have e2 : (l.map Term.lent ++ marks).drop (l.length + 12) = [] := List.drop_eq_nil_of_le (by simp [marks, marksTo_len])
    rw [e1, e2]
    have hml : marks.length = 12 := by simp [marks, marksTo_len]
    unfold slim
    split
    · rename_i heq _
      have h2 : marks = [] := by injection heq
      rw [h2] at hml
      cases hml
    · exact hK g'
theorem sl_lents_len {P : Program} {t : TypeId} (l : List Term) : ablt P .len #[t] [lents l] = if (el P t).isSome then some (.int .i64 l.length) else none := by
  simp [lents, l_sl]
theorem kepts_pure (l : List Term) (hl : l.length ≤ 1000000000) (hf : ∀ x, x ∈ l → Pure Tryz.prog G 65 [x.lent, x.enc] (.bool true)) : Pure Tryz.prog G 38 [lents l, encs l] (.bool true) := by
  intro σ
  have hw0 : IntKind.i64.wrap ((l.length : Int) + 12) = l.length + 12 := wrap_nat (by omega) (by omega)
  have hml : marks.length = 12 := by simp [marks, marksTo_len]
  have hsm : ∀ i : Int, Pure Tryz.prog G 66 [(markT 1 i).enc, (markT 1 i).enc] (.bool true) := fun i => by
    have := same_pure G (markT 1 i) (markT 1 i) (by simp [markT, Term.bulk, bulks]) (by simp [markT, Term.bulk, bulks])
    rwa [(same_iff _ _).2 rfl] at this
  refine Tri.of_awp mixed Tryz.func38 rfl (by kernel_rfl) (by kernel_rfl) (by simp [Tryz.ntmps38]) Tryz.results38 ?_
  simp -dsimp only [↓bp, bq, br, seval, tbTermLent, hw0, sl_lents_len]
  refine sl_lents l _ rfl rfl fun g => ?_
  simp -dsimp only [↓bp, bq, br, seval, tbTermLent]
  refine loop_intro (fun n e σ' => ∃ i : Nat, i ≤ ((l.map Term.lent ++ marks)).length ∧ n = ((l.map Term.lent ++ marks)).length - i ∧ e 6 = .int .i64 i ∧ σ.le σ') ((l.map Term.lent ++ marks)).length
      ⟨0, by omega, by omega, by simp -dsimp only [↓bp, bq, br, seval, tbTermLent]; first | done | rfl, AS.le.refl σ⟩ ?_
  rintro n v σ' ⟨i, hi, rfl, h6, hle⟩
  simp -dsimp only [↓bp, bq, br, seval, tbTermLent] at h6
  simp -dsimp only [↓bp, bq, br, seval, tbTermLent, h6]
  refine condW_dec (fun hlt => ?_) (fun hge => ?_)
  · have hl3 : i < l.length + 12 := by rw [List.length_append, List.length_map, hml] at hlt; omega
    by_cases hi2 : (i : Int) < l.length
    · obtain ⟨k, hk⟩ : ∃ k, l[i]? = some k := ⟨_, List.getElem?_eq_getElem (by omega)⟩
      have hkm : k ∈ l := List.mem_of_getElem? hk
      have hx : (l.map Term.lent ++ marks)[i]? = some k.lent := by rw [List.getElem?_append_left (by simp; omega), List.getElem?_map, hk]; rfl
      have hge : ¬ (l.length : Int) ≤ i := by omega
      clear hi hlt
      repeat' (first | refine xs ?_ ?_ <;> intros | ((first | refine xh ?_ | refine xi ?_); intro bx hbx; (try simp only [fb] at hbx)) | refine Pure.use (hf k hkm) ?_ | refine Pure.head (hf k hkm) ?_ | refine xj ?_ | ((with_reducible refine And.intro ?_ ?_); omega) | refine bo_buildSlice (d' := ⟨⟩) ?_ | refine xk (by kernel_rfl) ?_ | refine xf ?_ (by repeat' first | exact lr _ | assumption | refine ls ?_ ?_ | refine lt ?_ ?_ | simp only [*]; done | exact lf ‹_› (by simp only [*])) | simp -dsimp only [↓bp, bq, br, seval, tbTermLent, Term.flat_lent, Term.isv_lent, Term.fold_lent, isv_lents, flat_lents, sl_lents_len, *])
      all_goals (have hl2 : (l.map Term.lent ++ marks).length = l.length + 12 := by simp [hml])
      all_goals exact ⟨(l.map Term.lent ++ marks).length - (i + 1), by omega, i + 1, by omega, rfl, by rw [wrap_nat (by omega) (by omega)]; rfl⟩
    · have hx : (l.map Term.lent ++ marks)[i]? = some (markT 1 ((i - l.length : Nat) : Int)).enc := by
        rw [List.getElem?_append_right (by simp; omega), List.length_map]
        have : i - l.length < 12 := by omega
        simp [marks, marksTo, this]
      have hge : (l.length : Int) ≤ i := by omega
      have hw1 : IntKind.i64.wrap ((i : Int) - l.length) = ((i - l.length : Nat) : Int) := by rw [wrap_nat (by omega) (by omega)]; omega
      clear hi hlt
      repeat' (first | refine xs ?_ ?_ <;> intros | ((first | refine xh ?_ | refine xi ?_); intro bx hbx; (try simp only [fb] at hbx)) | refine Pure.use (markTerm_pure G 1 _) ?_ | refine Pure.head (markTerm_pure G 1 _) ?_ | refine Pure.use (hsm _) ?_ | refine Pure.head (hsm _) ?_ | refine xj ?_ | ((with_reducible refine And.intro ?_ ?_); omega) | refine bo_buildSlice (d' := ⟨⟩) ?_ | refine xk (by kernel_rfl) ?_ | refine xf ?_ (by repeat' first | exact lr _ | assumption | refine ls ?_ ?_ | refine lt ?_ ?_ | simp only [*]; done | exact lf ‹_› (by simp only [*])) | simp -dsimp only [↓bp, bq, br, seval, tbTermLent, Term.flat_lent, Term.isv_lent, Term.fold_lent, isv_lents, flat_lents, sl_lents_len, *])
      all_goals (have hl2 : (l.map Term.lent ++ marks).length = l.length + 12 := by simp [hml])
      all_goals exact ⟨(l.map Term.lent ++ marks).length - (i + 1), by omega, i + 1, by omega, rfl, by rw [wrap_nat (by omega) (by omega)]; rfl⟩
  · have : i = (l.map Term.lent ++ marks).length := by omega
    subst this
    clear hi hge
    repeat' (first | refine xs ?_ ?_ <;> intros | ((first | refine xh ?_ | refine xi ?_); intro bx hbx; (try simp only [fb] at hbx)) | refine xj ?_ | ((with_reducible refine And.intro ?_ ?_); omega) | refine bo_buildSlice (d' := ⟨⟩) ?_ | refine xk (by kernel_rfl) ?_ | refine xf ?_ (by repeat' first | exact lr _ | assumption | refine ls ?_ ?_ | refine lt ?_ ?_ | simp only [*]; done | exact lf ‹_› (by simp only [*])) | simp -dsimp only [↓bp, bq, br, seval, tbTermLent, *])
    all_goals rfl
theorem kept_pure (t : Term) (hb : t.bulk ≤ 1000000000) : Pure Tryz.prog G 65 [t.lent, t.enc] (.bool true) := by
  revert hb
  refine Term.ind (P := fun t => t.bulk ≤ 1000000000 → Pure Tryz.prog G 65 [t.lent, t.enc] (.bool true)) (fun t ih1 ih2 hb => ?_) t
  have hl1 := kepts_pure G t.items (by have := len_items t; omega) (fun x hx => ih1 x hx (by have := bulk_item hx; omega))
  have hl2 := kepts_pure G t.tail (by have := len_tail t; omega) (fun x hx => ih2 x hx (by have := bulk_tail hx; omega))
  have hl3 := keptlims_pure G t.limbs (by have := len_limbs t; omega)
  have hs := (same_pure G t t hb hb).lessArgs (args := [t.lent, t.enc]) (.cons (lent_le t) (.cons (Le.refl _) .nil))
  rw [(same_iff t t).2 rfl] at hs
  intro σ
  refine Tri.of_awp mixed Tryz.func65 rfl (by kernel_rfl) (by kernel_rfl) (by simp [Tryz.ntmps65]) Tryz.results65 ?_
  repeat' (first | refine xs ?_ ?_ <;> intros | ((first | refine xh ?_ | refine xi ?_); intro bx hbx; (try simp only [fb] at hbx)) | refine Pure.use (hl1) ?_ | refine Pure.head (hl1) ?_ | refine Pure.use (hl2) ?_ | refine Pure.head (hl2) ?_ | refine Pure.use (hl3) ?_ | refine Pure.head (hl3) ?_ | refine Pure.use (hs) ?_ | refine Pure.head (hs) ?_ | refine xj ?_ | ((with_reducible refine And.intro ?_ ?_); omega) | refine bo_buildSlice (d' := ⟨⟩) ?_ | refine xk (by kernel_rfl) ?_ | refine xf ?_ (by repeat' first | exact lr _ | assumption | refine ls ?_ ?_ | refine lt ?_ ?_ | simp only [*]; done | exact lf ‹_› (by simp only [*])) | simp -dsimp only [↓bp, bq, br, seval, tbTermLent, Term.flat_lent, Term.isv_lent, Term.fold_lent, isv_lents, flat_lents, sl_lents_len, isv_lentLims, flat_lentLims, *])
  all_goals rfl
end Go.Proofs.YtphnoaihojccbaaGreatDoor
namespace Go.Proofs.YtphnoaihojccbaaGreatDoor
open Go Go.RowKit
set_option maxHeartbeats 1000000 in
set_option maxRecDepth 100000 in
theorem copyCheck_used (b : Nat) (w : World) (h0 : w.cell? ⟨b, 0, none⟩ = some (.pointer (some ⟨b, 0, none⟩))) :
    Calls Tryz.prog 94 #[.pointer (some ⟨b, 0, none⟩)] w fun e w' => e = .returned (.tuple #[]) ∧ w' = w := by
  have mixed : Tryz.prog.follows .mixedOrders = true := by kernel_rfl
  have t72 := Tryz.underlying95; have a72 := Tryz.isAgg95; have z72 := Tryz.sizeOf95; have v72 := Tryz.zeroValue95; have u72 := run_underlying Tryz.underlying95
  have t70 := Tryz.underlying93; have a70 := Tryz.isAgg93; have z70 := Tryz.sizeOf93; have v70 := Tryz.zeroValue93; have u70 := run_underlying Tryz.underlying93
  have t4 := Tryz.underlying4; have a4 := Tryz.isAgg4; have z4 := Tryz.sizeOf4; have v4 := Tryz.zeroValue4; have u4 := run_underlying Tryz.underlying4
  obtain ⟨j, hj, _⟩ : ∃ j, Tryz.prog.info? 95 = some j ∧ j.size = 2 := ⟨_, rfl, by kernel_rfl⟩
  go_enter Tryz.func94, Tryz.ntmps94
  go_wp2
  rw [Lib.run_neq_ptr_same w _ Tryz.underlying93 hj]
  go_wp2
  go_end0
  exact ⟨rfl, rfl⟩
set_option maxHeartbeats 1000000 in
set_option maxRecDepth 100000 in
theorem copyCheck_fresh (b : Nat) (w : World) (h0 : w.cell? ⟨b, 0, none⟩ = some (.pointer none)) (hsh : w.shape? b = some (95, 2)) (hfz : w.frozen? ⟨b, 0, none⟩ = false) :
    Calls Tryz.prog 94 #[.pointer (some ⟨b, 0, none⟩)] w fun e w' => e = .returned (.tuple #[]) ∧ w' = w.setCell ⟨b, 0, none⟩ (.pointer (some ⟨b, 0, none⟩)) := by
  have mixed : Tryz.prog.follows .mixedOrders = true := by kernel_rfl
  have t72 := Tryz.underlying95; have a72 := Tryz.isAgg95; have z72 := Tryz.sizeOf95; have v72 := Tryz.zeroValue95; have u72 := run_underlying Tryz.underlying95
  have t70 := Tryz.underlying93; have a70 := Tryz.isAgg93; have z70 := Tryz.sizeOf93; have v70 := Tryz.zeroValue93; have u70 := run_underlying Tryz.underlying93
  have t4 := Tryz.underlying4; have a4 := Tryz.isAgg4; have z4 := Tryz.sizeOf4; have v4 := Tryz.zeroValue4; have u4 := run_underlying Tryz.underlying4
  have t164 := Tryz.underlying200; have a164 := Tryz.isAgg200; have z164 := Tryz.sizeOf200; have v164 := Tryz.zeroValue200; have u164 := run_underlying Tryz.underlying200
  obtain ⟨j, hj, hjs⟩ : ∃ j, Tryz.prog.info? 95 = some j ∧ j.size = 2 := ⟨_, rfl, by kernel_rfl⟩
  go_enter Tryz.func94, Tryz.ntmps94
  go_wp2
  rw [Lib.run_to_unsafe w ⟨b, 0, none⟩ t70 t164 hj (by rw [hjs]; decide) hsh (Nat.zero_lt_succ 1)]
  simp only [Result.andThen]
  rw [Oper.upon_value]
  go_wp2
  rw [run_callFunc_extern Tryz.func133 (by kernel_rfl) (by kernel_rfl) (by kernel_rfl) (e := Extern.AbiNoEscape.same) (by kernel_rfl)]
  rw [Lib.run_noEscape]
  simp only [Result.andThen]
  rw [Oper.upon_value]
  go_wp2
  rw [Lib.run_from_unsafe w ⟨b, 0, none⟩ t164 t70 hj hsh (by kernel_rfl)]
  simp only [Result.andThen]
  rw [Oper.upon_value]
  go_wp2
  go_end0
  exact ⟨rfl, rfl⟩
end Go.Proofs.YtphnoaihojccbaaGreatDoor
namespace Go.Av
open Go Go.RowKit
theorem fresh_ne {σ : AS} {b c : Nat} {z : List AV} (h : σ.box b = some z) (hc : σ.fresh c) : ¬ b = c ∧ ¬ c = b := by
  have : ¬ b = c := fun e => by subst e; rw [hc.1] at h; cases h
  exact ⟨this, fun e => this e.symm⟩
theorem Tri.back {P : Program} {G : Nat → AV} {f : FuncId} {args : List AV} {σ : AS} {Q : AV → Prop} (h : Tri P G f args σ fun r σ' => Q r ∧ σ.le σ') : Tri P G f args σ fun r σ' => Q r ∧ σ' = σ :=
  ⟨h.1, fun K w vals hr hv => (h.2 K w vals hr hv).mono fun e w' ⟨v, r, σ', K', he, ⟨hQ, hl⟩, h1, h2, h3⟩ => ⟨v, r, σ, K', he, ⟨hQ, rfl⟩, h1, h2.weaken hl, h3⟩⟩
inductive WBuf (n : Nat) (E : TypeId) (σ0 σ : AS) : AV → List AV → Prop
  | nil (h : σ0.le σ) : WBuf n E σ0 σ .nil []
  | row (b : Nat) (xs : List AV) (h : σ0.le σ) (h0 : σ0.box b = none) (h1 : σ0.tip b = none) (hb : σ.box b = some (xs.flatMap flat)) (hx : ∀ a, a ∈ xs → (flat a).length = n ∧ isv a = true) : WBuf n E σ0 σ (.bs b xs.length n E) xs
theorem WBuf.le {n : Nat} {E : TypeId} {σ0 σ : AS} {v : AV} {xs : List AV} (h : WBuf n E σ0 σ v xs) : σ0.le σ := by cases h <;> assumption
theorem flatMap_len {n : Nat} : ∀ (xs : List AV), (∀ a, a ∈ xs → (flat a).length = n) → (xs.flatMap flat).length = xs.length * n
  | [], _ => by simp
  | x :: xs, h => by
    rw [List.flatMap_cons, List.length_append, h x (by simp), flatMap_len xs fun a ha => h a (by simp [ha]), List.length_cons, Nat.succ_mul, Nat.add_comm]
theorem AS.le.delSet {σ0 σ : AS} (h : σ0.le σ) {b b' : Nat} (hb : σ0.box b = none) (hb' : σ0.box b' = none) (z : List AV) : σ0.le ((σ.delBox b).setBox b' z) := by
  refine ⟨fun i cs hi => ?_, fun i m hi => h.tip _ _ hi, h.ty⟩
  have h1 : i ≠ b := fun e => by subst e; rw [hb] at hi; cases hi
  have h2 : i ≠ b' := fun e => by subst e; rw [hb'] at hi; cases hi
  show (if i = b' then _ else if i = b then none else σ.box i) = some cs
  rw [if_neg h2, if_neg h1]; exact h.box _ _ hi
end Go.Av
namespace Go.Av
open Go Go.RowKit
variable {P : Program} {e : Env} {σ : AS}
def aresk : Option AV → Option (List AV) → Option (List AV)
  | some x, some xs => some (x :: xs)
  | _, _ => none
theorem ares_cons2 {r s : ResultVar} {rs : List ResultVar} : ares P e σ (r :: s :: rs) = aresk (ares1 P e σ r) (ares P e σ (s :: rs)) := by
  rw [ares]; unfold aresk; rfl
theorem ares1_tmp {t : Tmp} : ares1 P e σ (.tmp t) = some (e t) := nr rfl
theorem ares1_cell {t : Tmp} {ty : TypeId} : ares1 P e σ (.cell t ty) = aload P σ ty (e t) := nr rfl
theorem aresk_some {x : AV} {xs : List AV} : aresk (some x) (some xs) = some (x :: xs) := nr rfl
end Go.Av
namespace Go.Av
open Go Go.RowKit
def notRow : AV → Nat → Prop
  | .bs r _ _ _, c => c ≠ r
  | _, _ => True
structure WApp (n : Nat) (E : TypeId) (σ0 σ : AS) (v : AV) (xs : List AV) (v' : AV) (σ' : AS) : Prop where
  buf : WBuf n E σ0 σ' v' xs
  keep : ∀ c z, σ.box c = some z → notRow v c → σ'.box c = some z ∧ notRow v' c
  ty : σ'.ty = σ.ty
  ne : v' ≠ .nil → v = .nil → xs ≠ []
theorem app_wb {P : Program} {n by_ : Nat} {σ0 σ : AS} {v x : AV} {xs ys : List AV} {t tx E : TypeId} {K : AV → AS → Prop} {d : Dum σ} {d' : Dum K} (hB : WBuf n E σ0 σ v xs) (he : aelt P t = some (E, n, by_)) (hs : asrc P tx x = some ys)
    (hys : ∀ a, a ∈ ys → (Av.flat a).length = n ∧ isv a = true) (hb : (xs.length + ys.length) * by_ ≤ 140737488355328) (hK : ∀ v' σ', WApp n E σ0 σ v (xs ++ ys) v' σ' → K v' σ') : appW P σ t tx v x K d d' := by
  cases hB with
  | nil h =>
    by_cases hy : ys = []
    · subst hy
      refine .inl ?_
      unfold aappend
      rw [he, hs]
      refine ⟨fun a ha => (by cases ha), by simp, fun _ => hK _ _ ⟨.nil h, fun c z hc _ => ⟨hc, trivial⟩, rfl, fun hn => absurd rfl hn⟩, fun hy => absurd rfl hy⟩
    · refine .inr (.inl ?_)
      unfold aappendM
      rw [he, hs]
      refine ⟨fun a ha => (hys a ha).1, hy, by simpa using hb, fun b hf => hK _ _ ⟨?_, fun c z hc _ => ?_, rfl, fun _ _ => by simpa using hy⟩⟩
      · have hf0 := h.fresh hf
        exact .row b ys (h.setBox hf0.1 _) hf0.1 hf0.2.1 (by simp [AS.setBox]) hys
      · have := fresh_ne hc hf
        exact ⟨by simp only [AS.setBox, if_neg this.1]; exact hc, this.1⟩
  | row b xs h h0 h1 hbx hx =>
    refine .inr (.inl ?_)
    unfold aappendM
    rw [he, hs]
    have hl := flatMap_len xs fun a ha => (hx a ha).1
    refine ⟨fun a ha => (hys a ha).1, ⟨rfl, rfl⟩, _, hbx, by rw [hl]; exact Nat.le_refl _, hb, fun b' hb' => ?_⟩
    have h0' : σ0.box b' = none ∧ σ0.tip b' = none := by
      rcases hb' with rfl | hf
      · exact ⟨h0, h1⟩
      · exact ⟨(h.fresh hf).1, (h.fresh hf).2.1⟩
    have e1 : (xs.flatMap flat).take (xs.length * n) ++ ys.flatMap flat = (xs ++ ys).flatMap flat := by
      rw [List.take_of_length_le (by rw [hl]; exact Nat.le_refl _), List.flatMap_append]
    have hK' := hK (.bs b' (xs ++ ys).length n E) ((σ.delBox b).setBox b' ((xs ++ ys).flatMap flat)) ⟨.row b' (xs ++ ys) (h.delSet h0 h0'.1 _) h0'.1 h0'.2 (by simp [AS.setBox]) fun a ha => by
      rcases List.mem_append.1 ha with ha | ha
      · exact hx a ha
      · exact hys a ha, fun c z hc hn => by
        have h2 : c ≠ b' := by
          rcases hb' with rfl | hf
          · exact hn
          · exact (fresh_ne hc hf).1
        refine ⟨?_, h2⟩
        show (if c = b' then _ else if c = b then none else σ.box c) = some z
        rw [if_neg h2, if_neg hn]; exact hc, rfl, fun _ hn => by cases hn⟩
    rw [← e1, List.length_append] at hK'
    exact hK'
theorem WBuf.setOther {n : Nat} {E : TypeId} {σ0 σ : AS} {v : AV} {xs : List AV} (h : WBuf n E σ0 σ v xs) {b : Nat} (hb : σ0.box b = none) (hn : notRow v b) (z : List AV) : WBuf n E σ0 (σ.setBox b z) v xs := by
  cases h with
  | nil h => exact .nil (h.setBox hb z)
  | row r xs h h0 h1 hbx hx => exact .row r xs (h.setBox hb z) h0 h1 (by simp only [AS.setBox, if_neg (Ne.symm hn)]; exact hbx) hx
theorem Tri.tupBs {P : Program} {G : Nat → AV} {f : FuncId} {args : List AV} {σ : AS} {n s : Nat} {E : TypeId} {xs rest : List AV} (hx : ∀ a, a ∈ xs → (flat a).length = s ∧ isv a = true) (hn : xs.length = n)
    (h : Tri P G f args σ fun r σ' => ∃ b, r = .tup (.bs b n s E :: rest) ∧ σ.le σ' ∧ σ.box b = none ∧ σ.tip b = none ∧ σ'.box b = some (xs.flatMap flat)) : Tri P G f args σ fun r σ' => Le r (.tup (.sl .none xs [] :: rest)) ∧ σ' = σ := by
  refine Tri.back (Tri.freezeRes h fun r σ' ⟨b, hr, hl, h0, h1, h2⟩ => ?_)
  subst hr
  refine ⟨b, n, s, xs, _, .tup (.sl (.own b) xs [] :: rest), h2, ⟨hn, rfl, hx⟩, Has.tup 0 (by simp) Has.bs, .tup _ _ (by simp) (fun j g1 g2 => ?_), Le.tup (.cons Le.gh (Les.refl rest)), AS.froze_le hl h0 h1⟩
  cases j with
  | zero => exact .here E
  | succ j => exact .same _
theorem WBuf.newBox {n : Nat} {E : TypeId} {σ0 σ : AS} {v : AV} {xs : List AV} (h : WBuf n E σ0 σ v xs) {c : Nat} (hc : σ.fresh c) (z : List AV) : WBuf n E σ0 (σ.setBox c z) v xs ∧ notRow v c := by
  have hc0 := h.le.fresh hc
  have hn : notRow v c := by
    cases h with
    | nil _ => trivial
    | row r xs h h0 h1 hbx hx => exact (fresh_ne hbx hc).2
  exact ⟨h.setOther hc0.1 hn z, hn⟩
theorem WBuf.len {P : Program} {n : Nat} {E : TypeId} {σ0 σ : AS} {v : AV} {xs : List AV} (h : WBuf n E σ0 σ v xs) {t : TypeId} : ablt P .len #[t] [v] = if (el P t).isSome then some (.int .i64 xs.length) else none := by
  cases h with
  | nil _ => rw [l_nil]; rfl
  | row r xs h h0 h1 hbx hx => rw [l_bs]
theorem WBuf.form {n : Nat} {E : TypeId} {σ0 σ : AS} {v : AV} {xs : List AV} (h : WBuf n E σ0 σ v xs) (hne : xs ≠ []) : ∃ r, v = .bs r xs.length n E ∧ σ.box r = some (xs.flatMap flat) ∧ σ0.box r = none ∧ σ0.tip r = none := by
  cases h with
  | nil _ => exact absurd rfl hne
  | row r xs h h0 h1 hbx hx => exact ⟨r, rfl, hbx, h0, h1⟩
def byteA (c : UInt8) : AV := .int .u8 c.toNat
def bytesA (s : List UInt8) : List AV := s.map byteA
theorem flat_bytesA (s : List UInt8) : (bytesA s).flatMap flat = bytesA s := by
  induction s with
  | nil => rfl
  | cons c s ih => simp only [bytesA, List.map_cons, List.flatMap_cons] at ih ⊢; rw [ih]; rfl
theorem bytes_ok (s : List UInt8) : ∀ a, a ∈ bytesA s → (flat a).length = 1 ∧ isv a = true := fun a ha => by
  obtain ⟨c, _, rfl⟩ := List.mem_map.1 ha
  exact ⟨rfl, rfl⟩
structure Bld (T E : TypeId) (σ0 σ : AS) (b : Nat) (xs : List UInt8) : Prop where
  le : σ0.le σ
  out : σ0.box b = none
  ty : σ.ty b = some (T, 2)
  box : ∃ p v, σ.box b = some [p, v] ∧ (p = .nilptr ∨ p = .ptr b 0) ∧ WBuf 1 E σ0 σ v (bytesA xs) ∧ notRow v b ∧ (v ≠ .nil → xs ≠ [])
theorem AS.le.newBase {σ0 σ : AS} (h : σ0.le σ) (c : Nat) (z : List AV) : (σ0.setBox c z).le (σ.setBox c z) := by
  refine ⟨fun i cs hi => ?_, h.tip, h.ty⟩
  simp only [AS.setBox] at hi ⊢
  split
  · rename_i e; rw [if_pos e] at hi; exact hi
  · rename_i e; rw [if_neg e] at hi; exact h.box _ _ hi
theorem Bld.newBox {T E : TypeId} {σ0 σ : AS} {b : Nat} {xs : List UInt8} (h : Bld T E σ0 σ b xs) {c : Nat} (hc : σ.fresh c) (z : List AV) : Bld T E (σ0.setBox c z) (σ.setBox c z) b xs := by
  obtain ⟨p, v, h1, h2, h3, h4, h5⟩ := h.box
  have hbc := fresh_ne h1 hc
  refine ⟨h.le.newBase c z, by simp only [AS.setBox, if_neg hbc.1]; exact h.out, h.ty, p, v, by simp only [AS.setBox, if_neg hbc.1]; exact h1, h2, ?_, h4, h5⟩
  revert h3
  generalize bytesA xs = l
  intro h3
  cases h3 with
  | nil _ => exact .nil (h.le.newBase c z)
  | row r xs' h' g0 g1 gb gx =>
    have hrc := fresh_ne gb hc
    exact .row r _ (h.le.newBase c z) (by simp only [AS.setBox, if_neg hrc.1]; exact g0) g1 (by simp only [AS.setBox, if_neg hrc.1]; exact gb) gx
theorem Bld.weaken {T E : TypeId} {σ0 σ1 σ : AS} {b : Nat} {xs : List UInt8} (h : Bld T E σ1 σ b xs) (hl : σ0.le σ1) : Bld T E σ0 σ b xs := by
  obtain ⟨p, v, h1, h2, h3, h4, h5⟩ := h.box
  have none_of : ∀ i, σ1.box i = none → σ0.box i = none := fun i hi => by
    cases e : σ0.box i with
    | none => rfl
    | some z => rw [hl.box _ _ e] at hi; cases hi
  have none_tip : ∀ i, σ1.tip i = none → σ0.tip i = none := fun i hi => by
    cases e : σ0.tip i with
    | none => rfl
    | some z => rw [hl.tip _ _ e] at hi; cases hi
  refine ⟨hl.trans h.le, none_of _ h.out, h.ty, p, v, h1, h2, ?_, h4, h5⟩
  revert h3
  generalize bytesA xs = l
  intro h3
  cases h3 with
  | nil _ => exact .nil (hl.trans h.le)
  | row r xs' h' g0 g1 gb gx => exact .row r _ (hl.trans h.le) (none_of _ g0) (none_tip _ g1) gb gx
theorem Bld.start {T E : TypeId} {σ0 σ : AS} {b : Nat} (hl : σ0.le σ) (hf : σ.fresh b) : Bld T E σ0 ((σ.setBox b [.nilptr, .nil]).setTy b (T, 2)) b [] := by
  have hf0 := hl.fresh hf
  refine ⟨?_, hf0.1, by simp [AS.setTy], .nilptr, .nil, by simp [AS.setBox, AS.setTy], .inl rfl, .nil ?_, trivial, fun h => absurd rfl h⟩
  · exact (hl.setBox hf0.1 _).setTy hf0.2.2 _
  · exact (hl.setBox hf0.1 _).setTy hf0.2.2 _
theorem Bld.push {T E : TypeId} {σ0 σ σ' : AS} {b : Nat} {xs ys : List UInt8} {v v' : AV} (h : Bld T E σ0 σ b xs) (hb : σ.box b = some [.ptr b 0, v]) (hn : notRow v b) (ha : WApp 1 E σ0 σ v (bytesA xs ++ bytesA ys) v' σ') (hx : v ≠ .nil → xs ≠ []) : Bld T E σ0 (σ'.setBox b [.ptr b 0, v']) b (xs ++ ys) := by
  obtain ⟨h1, h2⟩ := ha.keep b _ hb hn
  have e : bytesA xs ++ bytesA ys = bytesA (xs ++ ys) := by simp [bytesA]
  refine ⟨ha.buf.le.setBox h.out _, h.out, by show σ'.ty b = _; rw [ha.ty]; exact h.ty, .ptr b 0, v', by simp [AS.setBox], .inr rfl, ?_, h2, fun hv' => ?_⟩
  · rw [← e]; exact ha.buf.setOther h.out h2 _
  · by_cases hv : v = .nil
    · have := ha.ne hv' hv
      intro hh
      rw [e, hh] at this
      exact this rfl
    · intro hh
      exact hx hv (List.append_eq_nil_iff.1 hh).1
end Go.Av
set_option maxRecDepth 100000
namespace Go.Proofs.YtphnoaihojccbaaGreatDoor
open Go Go.Av
theorem tf98 : tk Tryz.prog 98 = some (false, 1) ∧ sk Tryz.prog 98 = .oth ∧ (Tryz.prog.underlying 98).isSome = true ∧ el Tryz.prog 98 = none ∧ by_ Tryz.prog 98 = some 16 := ⟨by kernel_rfl, by kernel_rfl, by kernel_rfl, by kernel_rfl, by kernel_rfl⟩
theorem tf125 : tk Tryz.prog 125 = some (false, 1) ∧ sk Tryz.prog 125 = .ptr 5 ∧ (Tryz.prog.underlying 125).isSome = true ∧ el Tryz.prog 125 = none ∧ zc Tryz.prog 125 = some [.nilptr] ∧ by_ Tryz.prog 125 = some 8 := ⟨by kernel_rfl, by kernel_rfl, by kernel_rfl, by kernel_rfl, by kernel_rfl, by kernel_rfl⟩
end Go.Proofs.YtphnoaihojccbaaGreatDoor
set_option maxRecDepth 20000
namespace Go.Proofs.YtphnoaihojccbaaGreatDoor
open Go Go.Av
def tbBld := And.intro (And.intro (And.intro @tf3 @tf4) (And.intro @tf5 @tf9)) (And.intro (And.intro @tf86 @tf93) (And.intro @tf95 (And.intro @tf98 @tf125)))
variable (G : Nat → AV)
abbrev Bl (σ0 σ : AS) (b : Nat) (xs : List UInt8) : Prop := Bld 95 5 σ0 σ b xs
theorem check_tri {σ : AS} {b : Nat} {p v : AV} (hb : σ.box b = some [p, v]) (ht : σ.ty b = some (95, 2)) (hp : p = .nilptr ∨ p = .ptr b 0) :
    Tri Tryz.prog G 94 [.ptr b 0] σ fun r σ' => r = .tup [] ∧ σ' = σ.setBox b [.ptr b 0, v] := by
  refine ⟨by kernel_rfl, fun K w vals hr hv => ?_⟩
  match vals, hv with
  | [x], ⟨hx, _⟩ =>
    rw [VR.ptr_iff] at hx
    subst hx
    obtain ⟨k1, k2, k3, k4, k5, c, E, hc, hl, hcv⟩ := hr.box b _ hb
    obtain ⟨c2, fz, hc2, hn2⟩ := hr.ty b _ _ ht
    rw [hc] at hc2
    simp only [Option.some.injEq, Obj.cells.injEq] at hc2
    obtain ⟨rfl, rfl, rfl⟩ := hc2
    have h0 := hcv 0 (by simp)
    have h1 := hcv 1 (by simp)
    simp only [List.getElem_cons_zero, List.getElem_cons_succ] at h0 h1
    have hsz : c.size = 2 := hn2
    have hcell : w.cell? ⟨b, 0, none⟩ = some (c.getD 0 Go.undef) := by
      rw [Lib.cell_of_heap hc]
      simp [hsz]
    rcases hp with rfl | rfl
    · rw [VR.nilptr_iff] at h0
      rw [h0] at hcell
      refine (copyCheck_fresh b w hcell (by simp [World.shape?, hc, hsz]) (by simp [World.frozen?, hc])).mono ?_
      rintro e w' ⟨rfl, rfl⟩
      refine ⟨_, .tup [], _, K, rfl, ⟨rfl, rfl⟩, .tup [] #[] rfl (fun j h => by cases h), ?_, Ctx.le.refl K⟩
      have e1 : w.setCell ⟨b, 0, none⟩ (.pointer (some ⟨b, 0, none⟩)) = w.setRow b (c.setIfInBounds 0 (.pointer (some ⟨b, 0, none⟩))) := by
        exact setCell_eq_setRow w b 0 c _ _ _ hc
      rw [e1]
      refine hr.setBox hb hc _ (by simp) (by simp [hsz]) (fun a ha => ?_) (fun j hj => ?_)
      · simp at ha
        rcases ha with rfl | rfl
        · rfl
        · exact k5 _ (by simp)
      · match j, hj with
        | 0, _ => simp [hsz]; exact .ptr b 0
        | 1, _ => simp only [List.getElem_cons_succ, List.getElem_cons_zero]; rw [show (c.setIfInBounds 0 (Value.pointer (some ⟨b, 0, none⟩))).getD 1 Go.undef = c.getD 1 Go.undef by simp [Array.getD_eq_getD_getElem?]]; exact h1
    · rw [VR.ptr_iff] at h0
      rw [h0] at hcell
      refine (copyCheck_used b w hcell).mono ?_
      rintro e w' ⟨rfl, rfl⟩
      exact ⟨_, .tup [], σ, K, rfl, ⟨rfl, (setBox_id hb).symm⟩, .tup [] #[] rfl (fun j h => by cases h), hr, Ctx.le.refl K⟩
theorem tfB : aelt Tryz.prog 86 = some (5, 1, 1) := tf86.2.2.2.2.2.2
theorem tfBE : el Tryz.prog 86 = some 5 := tf86.2.2.2.1
theorem bytesA_len (xs : List UInt8) : (bytesA xs).length = xs.length := by simp [bytesA]
theorem isv_byteA (c : UInt8) : isv (byteA c) = true := rfl
theorem flat_byteA (c : UInt8) : flat (byteA c) = [byteA c] := rfl
theorem buf_flat {σ0 σ : AS} {v : AV} {l : List AV} (h : WBuf 1 5 σ0 σ v l) : flat v = [v] := by cases h <;> rfl
theorem buf_isv {σ0 σ : AS} {v : AV} {l : List AV} (h : WBuf 1 5 σ0 σ v l) : isv v = true := by cases h <;> rfl
theorem writeByte_tri {σ0 σ : AS} {b : Nat} {xs : List UInt8} (h : Bl σ0 σ b xs) (hl : xs.length ≤ 1000000000) (c : UInt8) :
    Tri Tryz.prog G 98 [.ptr b 0, byteA c] σ fun r σ' => Bl σ0 σ' b (xs ++ [c]) := by
  obtain ⟨p, v, h1, h2, h3, h4, h5⟩ := h.box
  have hc := check_tri G (v := v) h1 h.ty h2
  have h3' := h3.setOther h.out h4 [.ptr b 0, v]
  have hB' : Bl σ0 (σ.setBox b [.ptr b 0, v]) b xs := ⟨h.le.setBox h.out _, h.out, h.ty, _, v, by simp [AS.setBox], .inr rfl, h3', h4, h5⟩
  have hbx : (σ.setBox b [.ptr b 0, v]).box b = some [.ptr b 0, v] := by simp [AS.setBox]
  generalize σ.setBox b [.ptr b 0, v] = σ1 at *
  refine Tri.of_awp mixed Tryz.func98 rfl (by kernel_rfl) (by kernel_rfl) (by simp [Tryz.ntmps98]) Tryz.results98 ?_
  repeat' (first | refine xs ?_ ?_ <;> intros | ((first | refine xh ?_ | refine xi ?_); intro bx hbx; (try simp only [fb] at hbx)) | ((refine Tri.mono hc ?_; rintro r s ⟨rfl, rfl⟩)) | ((refine app_wb (ys := bytesA [c]) h3' tfB (asrc_sl tfBE) (bytes_ok [c]) (by rw [bytesA_len, bytesA_len]; simp; omega) (fun v2 s2 ha => ?_); have k1 := (ha.keep b _ hbx h4).1; have k2 := buf_flat ha.buf; have k3 := buf_isv ha.buf)) | refine xj ?_ | ((with_reducible refine And.intro ?_ ?_); omega) | refine bo_buildSlice (d' := ⟨⟩) ?_ | refine xk (by kernel_rfl) ?_ | refine xf ?_ (by repeat' first | exact lr _ | assumption | refine ls ?_ ?_ | refine lt ?_ ?_ | simp only [*]; done | exact lf ‹_› (by simp only [*])) | simp -dsimp only [↓bp, bq, br, seval, tbBld, byteA, *])
  exact finishW_some _ (AS.le.refl _) (hB'.push hbx h4 ha h5)
theorem asrc_bytes (s : List UInt8) : asrc Tryz.prog 9 (.str s) = some (bytesA s) := asrc_str tf9.2.1
theorem writeString_tri {σ0 σ : AS} {b : Nat} {xs : List UInt8} (h : Bl σ0 σ b xs) (ys : List UInt8) (hl : xs.length + ys.length ≤ 1000000000000) :
    Tri Tryz.prog G 53 [.ptr b 0, .str ys] σ fun r σ' => Bl σ0 σ' b (xs ++ ys) := by
  obtain ⟨p, v, h1, h2, h3, h4, h5⟩ := h.box
  have hc := check_tri G (v := v) h1 h.ty h2
  have h3' := h3.setOther h.out h4 [.ptr b 0, v]
  have hB' : Bl σ0 (σ.setBox b [.ptr b 0, v]) b xs := ⟨h.le.setBox h.out _, h.out, h.ty, _, v, by simp [AS.setBox], .inr rfl, h3', h4, h5⟩
  have hbx : (σ.setBox b [.ptr b 0, v]).box b = some [.ptr b 0, v] := by simp [AS.setBox]
  generalize σ.setBox b [.ptr b 0, v] = σ1 at *
  refine Tri.of_awp mixed Tryz.func53 rfl (by kernel_rfl) (by kernel_rfl) (by simp [Tryz.ntmps53]) Tryz.results53 ?_
  repeat' (first | refine xs ?_ ?_ <;> intros | ((first | refine xh ?_ | refine xi ?_); intro bx hbx; (try simp only [fb] at hbx)) | ((refine Tri.mono hc ?_; rintro r s ⟨rfl, rfl⟩)) | ((refine app_wb (ys := bytesA ys) h3' tfB (asrc_bytes ys) (bytes_ok ys) (by rw [bytesA_len, bytesA_len]; omega) (fun v2 s2 ha => ?_); have k1 := (ha.keep b _ hbx h4).1; have k2 := buf_flat ha.buf; have k3 := buf_isv ha.buf)) | refine xj ?_ | ((with_reducible refine And.intro ?_ ?_); omega) | refine bo_buildSlice (d' := ⟨⟩) ?_ | refine xk (by kernel_rfl) ?_ | refine xf ?_ (by repeat' first | exact lr _ | assumption | refine ls ?_ ?_ | refine lt ?_ ?_ | simp only [*]; done | exact lf ‹_› (by simp only [*])) | simp -dsimp only [↓bp, bq, br, seval, tbBld, *])
  exact finishW_some _ (AS.le.refl _) (hB'.push hbx h4 ha h5)
theorem string_tri {σ0 σ : AS} {b : Nat} {xs : List UInt8} (h : Bl σ0 σ b xs) (hl : xs.length ≤ 1000000000000) :
    Tri Tryz.prog G 54 [.ptr b 0] σ fun r σ' => r = .str xs ∧ σ' = σ0 := by
  obtain ⟨p, v, h1, h2, h3, h4, h5⟩ := h.box
  revert h3
  generalize hbs : bytesA xs = bs
  intro h3
  cases h3 with
  | nil hle =>
    have hx : xs = [] := by cases xs with | nil => rfl | cons _ _ => cases hbs
    subst hx
    clear h5
    refine Tri.of_awp mixed Tryz.func54 rfl (by kernel_rfl) (by kernel_rfl) (by simp [Tryz.ntmps54]) Tryz.results54 ?_
    repeat' (first | refine xs ?_ ?_ <;> intros | ((first | refine xh ?_ | refine xi ?_); intro bx hbx; (try simp only [fb] at hbx)) | refine xj ?_ | ((with_reducible refine And.intro ?_ ?_); omega) | refine bo_buildSlice (d' := ⟨⟩) ?_ | refine xk (by kernel_rfl) ?_ | refine xf ?_ (by repeat' first | exact lr _ | assumption | refine ls ?_ ?_ | refine lt ?_ ?_ | simp only [*]; done | exact lf ‹_› (by simp only [*])) | simp -dsimp only [↓bp, bq, br, seval, tbBld, *]) | row r _ hle g0 g1 gb gx =>
    have hne : xs ≠ [] := h5 (by simp)
    have hlen : bs.length = xs.length := by rw [← hbs, bytesA_len]
    have hp : (0 : Int) < bs.length := by rw [hlen]; have := List.length_pos_iff.2 hne; omega
    have hp' : 0 < bs.length := by omega
    have gb' : σ.box r = some (xs.map fun c => .int .u8 c.toNat) := by rw [gb, ← hbs, flat_bytesA]; rfl
    clear h5 gx
    have hdel : σ0.le (σ.delBox r) := ⟨fun i cs hi => by
      have hne : i ≠ r := fun e => by subst e; rw [g0] at hi; cases hi
      show (if i = r then none else σ.box i) = some cs
      rw [if_neg hne]; exact h.le.box _ _ hi, fun i m hi => h.le.tip _ _ hi, h.le.ty⟩
    refine Tri.of_awp mixed Tryz.func54 rfl (by kernel_rfl) (by kernel_rfl) (by simp [Tryz.ntmps54]) Tryz.results54 ?_
    repeat' (first | refine xs ?_ ?_ <;> intros | ((first | refine xh ?_ | refine xi ?_); intro bx hbx; (try simp only [fb] at hbx)) | (refine ustrW_row (E := 5) (l := xs) tf125.2.1 (by kernel_rfl) gb' hne rfl ?_) | refine xj ?_ | ((with_reducible refine And.intro ?_ ?_); omega) | refine bo_buildSlice (d' := ⟨⟩) ?_ | refine xk (by kernel_rfl) ?_ | refine xf ?_ (by repeat' first | exact lr _ | assumption | refine ls ?_ ?_ | refine lt ?_ ?_ | simp only [*]; done | exact lf ‹_› (by simp only [*])) | simp -dsimp only [↓bp, bq, br, seval, tbBld, *])
    all_goals skip
end Go.Proofs.YtphnoaihojccbaaGreatDoor
set_option maxRecDepth 20000
namespace Go.Proofs.YtphnoaihojccbaaGreatDoor
open Go Go.Av
def tbGreat2 := And.intro (And.intro (And.intro (And.intro @tf3 @tf4) (And.intro @tf5 (And.intro @tf85 @tf9))) (And.intro (And.intro @tf40 (And.intro @tf39 @tf22)) (And.intro @tf42 (And.intro @Term.flat_enc @Term.isv_enc)))) (And.intro (And.intro (And.intro @Term.fold_enc (And.intro @isv_encs @flat_encs)) (And.intro @len_encs (And.intro @ix_encs @ix_encs'))) (And.intro (And.intro @isv_lims (And.intro @flat_lims @len_lims)) (And.intro @ix_lims (And.intro @ix_lims' @flat_limA))))
mutual
def termsOf : Term → Int → Int
  | .mk _ _ l s _ ks ts, m => termsLoop ts (termsLoop ks (1 + l.length + (s.length / 8 : Nat)) m) m
def termsLoop : List Term → Int → Int → Int
  | [], n, _ => n
  | k :: ks, n, m => if n ≤ m then termsLoop ks (n + termsOf k (m - n)) m else n
end
theorem termsOf_eq (t : Term) (m : Int) : termsOf t m = termsLoop t.tail (termsLoop t.items (1 + t.limbs.length + (t.text.length / 8 : Nat)) m) m := by cases t; rw [termsOf]; rfl
theorem termsLoop_le (l : List Term) (ih : ∀ k, k ∈ l → ∀ m, 0 < termsOf k m ∧ termsOf k m ≤ k.bulk) : ∀ n m, n ≤ termsLoop l n m ∧ termsLoop l n m ≤ n + bulks l := by
  induction l with
  | nil => intro n m; simp [termsLoop, bulks]
  | cons x l ih2 =>
    intro n m
    have h1 := ih x (by simp) (m - n)
    have h2 := ih2 (fun k hk => ih k (by simp [hk])) (n + termsOf x (m - n)) m
    simp only [termsLoop, bulks]
    split <;> omega
theorem termsOf_le (t : Term) : ∀ m, 0 < termsOf t m ∧ termsOf t m ≤ t.bulk := by
  refine Term.ind (P := fun t => ∀ m, 0 < termsOf t m ∧ termsOf t m ≤ t.bulk) (fun t ih1 ih2 m => ?_) t
  have h1 := termsLoop_le t.items ih1 (1 + t.limbs.length + (t.text.length / 8 : Nat)) m
  have h2 := termsLoop_le t.tail ih2 (termsLoop t.items (1 + t.limbs.length + (t.text.length / 8 : Nat)) m) m
  rw [termsOf_eq, Term.bulk_eq]
  omega
theorem bulks_take (l : List Term) (i : Nat) : bulks (l.take i) ≤ bulks l := by
  have := bulks_append (l.take i) (l.drop i)
  rw [List.take_append_drop] at this
  omega
variable (G : Nat → AV)
theorem termsOf_pure (t : Term) : ∀ m : Int, 0 ≤ m → m ≤ 1000000 → t.bulk ≤ 1000000000 → Pure Tryz.prog G 19 [t.enc, .int .i64 m] (.int .i64 (termsOf t m)) := by
  refine Term.ind (P := fun t => ∀ m : Int, 0 ≤ m → m ≤ 1000000 → t.bulk ≤ 1000000000 → Pure Tryz.prog G 19 [t.enc, .int .i64 m] (.int .i64 (termsOf t m))) (fun t ih1 ih2 m hm0 hm1 hbulk => ?_) t
  intro σ
  have hbe := t.bulk_eq
  have hl1 := len_le_bulks t.items
  have hl2 := len_le_bulks t.tail
  have hde := termsOf_eq t m
  obtain ⟨n0, hn0⟩ : ∃ n0 : Int, n0 = 1 + t.limbs.length + (t.text.length / 8 : Nat) := ⟨_, rfl⟩
  rw [← hn0] at hde
  have hq : IntKind.i64.wrap (IntKind.i64.wrap (1 + (t.limbs.length : Int)) + IntKind.i64.wrap ((t.text.length : Int).tdiv 8)) = n0 := by
    have : ((t.text.length : Int).tdiv 8) = ((t.text.length / 8 : Nat) : Int) := by
      rw [Int.tdiv_eq_ediv_of_nonneg (by omega)]; omega
    have hi : IntKind.i64.wrap ((t.text.length / 8 : Nat) : Int) = (t.text.length / 8 : Nat) := wrap_nat (by omega) (by omega)
    rw [this, hi, wrap_nat (x := 1 + (t.limbs.length : Int)) (by omega) (by omega), wrap_nat (by omega) (by omega), hn0]
  have hn1 : n0 ≤ 1 + t.limbs.length + t.text.length := by omega
  have hn2 : 0 < n0 := by omega
  clear hn0
  have e1 := termsLoop_le t.items (fun k _ => termsOf_le k) n0 m
  refine Tri.of_awp mixed Tryz.func19 rfl (by kernel_rfl) (by kernel_rfl) (by simp [Tryz.ntmps19]) Tryz.results19 ?_
  simp -dsimp only [↓bp, bq, br, seval, tbGreat2]
  intro b hb
  simp -dsimp only [↓bp, bq, br, seval, tbGreat2, hq]
  refine loop_intro (fun n e σ' => ∃ (i : Nat) (z : Int), i ≤ t.items.length ∧ n = t.items.length - i ∧ e 6 = .int .i64 i ∧ e 5 = .int .i64 z ∧ 0 < z ∧ z ≤ n0 + bulks (t.items.take i) ∧ termsLoop (t.items.drop i) z m = termsLoop t.items n0 m ∧
      σ' = σ.setBox b [.int .u8 t.knd, .bool t.neg, lims t.limbs, .str t.text, .int .i64 t.num, encs t.items, encs t.tail]) t.items.length
    ⟨0, n0, by omega, by omega, by simp -dsimp only [↓bp, bq, br, seval, tbGreat2]; try rfl, by simp -dsimp only [↓bp, bq, br, seval, tbGreat2, hq], by omega, by simp [bulks], by rw [List.drop_zero], rfl⟩ ?_
  rintro n v σ' ⟨i, z, hi, rfl, h6, h5, hz0, hz1, hz, rfl⟩
  have hbt := bulks_take t.items i
  simp -dsimp only [↓bp, bq, br, seval, tbGreat2] at h6 h5
  simp -dsimp only [↓bp, bq, br, seval, tbGreat2, h6, h5]
  refine gW_dec (fun hlt => ?_) (fun hge => ?_)
  · obtain ⟨k, hk⟩ : ∃ k, t.items[i]? = some k := ⟨_, List.getElem?_eq_getElem (by omega)⟩
    have hkm : k ∈ t.items := List.mem_of_getElem? hk
    have hkb := bulk_mem hkm
    have hko := termsOf_le k (m - z)
    have hdr := drop_get _ _ _ hk
    simp -dsimp only [↓bp, bq, br, seval, tbGreat2, h6, h5, hk, hlt]
    refine condW_dec (fun hle => ?_) (fun hnle => ?_)
    · have hw : IntKind.i64.wrap (m - z) = m - z := wrap_nat (by omega) (by omega)
      simp -dsimp only [↓bp, bq, br, seval, tbGreat2, h6, h5, hk, hlt, hle, hw]
      refine Pure.use (ih1 k hkm (m - z) (by omega) (by omega) (by omega)) ?_
      simp -dsimp only [↓bp, bq, br, seval, tbGreat2, h6, h5, hk, hlt, hle, hw]
      refine ⟨t.items.length - (i + 1), by omega, i + 1, z + termsOf k (m - z), by omega, rfl, ?_, ?_, by omega, ?_, ?_⟩
      · rw [wrap_nat (by omega) (by omega)]; rfl
      · rw [wrap_nat (by omega) (by omega)]
      · rw [take_succ_get _ _ _ hk, bulks_append]
        simp only [bulks]
        omega
      · rw [← hz, hdr, termsLoop, if_pos hle]
    · have hz' : termsLoop t.items n0 m = z := by rw [← hz, hdr, termsLoop, if_neg hnle]
      simp -dsimp only [↓bp, bq, br, seval, tbGreat2, h6, h5, hk, hlt, hnle]
      have hz3 : z ≤ n0 + bulks t.items := by omega
      have hz4 := termsLoop_le t.tail (fun k _ => termsOf_le k) z m
      rw [hz'] at hde
      refine loop_intro (fun n e σ' => ∃ (i : Nat) (y : Int), i ≤ t.tail.length ∧ n = t.tail.length - i ∧ e 7 = .int .i64 i ∧ e 5 = .int .i64 y ∧ 0 < y ∧ y ≤ z + bulks (t.tail.take i) ∧ termsLoop (t.tail.drop i) y m = termsLoop t.tail z m ∧
          σ' = σ.setBox b [.int .u8 t.knd, .bool t.neg, lims t.limbs, .str t.text, .int .i64 t.num, encs t.items, encs t.tail]) t.tail.length
        ⟨0, z, by omega, by omega, by simp -dsimp only [↓bp, bq, br, seval, tbGreat2]; try rfl, by simp -dsimp only [↓bp, bq, br, seval, tbGreat2, h5], by omega, by simp [bulks], by rw [List.drop_zero], rfl⟩ ?_
      rintro n2 v2 σ' ⟨j, y, hj, rfl, h7, h5', hy0, hy1, hy, rfl⟩
      have hbt2 := bulks_take t.tail j
      simp -dsimp only [↓bp, bq, br, seval, tbGreat2] at h7 h5'
      simp -dsimp only [↓bp, bq, br, seval, tbGreat2, h7, h5']
      refine gW_dec (fun hlt2 => ?_) (fun hge2 => ?_)
      · obtain ⟨k, hk⟩ : ∃ k, t.tail[j]? = some k := ⟨_, List.getElem?_eq_getElem (by omega)⟩
        have hkm : k ∈ t.tail := List.mem_of_getElem? hk
        have hkb := bulk_mem hkm
        have hko := termsOf_le k (m - y)
        have hdr := drop_get _ _ _ hk
        simp -dsimp only [↓bp, bq, br, seval, tbGreat2, h7, h5', hk, hlt2]
        refine condW_dec (fun hle => ?_) (fun hnle => ?_)
        · have hw : IntKind.i64.wrap (m - y) = m - y := wrap_nat (by omega) (by omega)
          simp -dsimp only [↓bp, bq, br, seval, tbGreat2, h7, h5', hk, hlt2, hle, hw]
          refine Pure.use (ih2 k hkm (m - y) (by omega) (by omega) (by omega)) ?_
          simp -dsimp only [↓bp, bq, br, seval, tbGreat2, h7, h5', hk, hlt2, hle, hw]
          refine ⟨t.tail.length - (j + 1), by omega, j + 1, y + termsOf k (m - y), by omega, rfl, ?_, ?_, by omega, ?_, ?_⟩
          · rw [wrap_nat (by omega) (by omega)]; rfl
          · rw [wrap_nat (by omega) (by omega)]
          · rw [take_succ_get _ _ _ hk, bulks_append]
            simp only [bulks]
            omega
          · rw [← hy, hdr, termsLoop, if_pos hle]
        · simp -dsimp only [↓bp, bq, br, seval, tbGreat2, h7, h5', hk, hlt2, hnle]
          refine finish_pure ?_ (le_set hb (AS.le.refl σ))
          rw [hde, ← hy, hdr, termsLoop, if_neg hnle]
      · have : j = t.tail.length := by omega
        subst this
        simp -dsimp only [↓bp, bq, br, seval, tbGreat2, h7, h5', hge2]
        refine finish_pure ?_ (le_set hb (AS.le.refl σ))
        rw [hde, ← hy, List.drop_length, termsLoop]
  · have : i = t.items.length := by omega
    subst this
    have hz' : termsLoop t.items n0 m = z := by rw [← hz, List.drop_length, termsLoop]
    simp -dsimp only [↓bp, bq, br, seval, tbGreat2, h6, h5, hge]
    have hz3 : z ≤ n0 + bulks t.items := by omega
    have hz4 := termsLoop_le t.tail (fun k _ => termsOf_le k) z m
    rw [hz'] at hde
    refine loop_intro (fun n e σ' => ∃ (i : Nat) (y : Int), i ≤ t.tail.length ∧ n = t.tail.length - i ∧ e 7 = .int .i64 i ∧ e 5 = .int .i64 y ∧ 0 < y ∧ y ≤ z + bulks (t.tail.take i) ∧ termsLoop (t.tail.drop i) y m = termsLoop t.tail z m ∧
        σ' = σ.setBox b [.int .u8 t.knd, .bool t.neg, lims t.limbs, .str t.text, .int .i64 t.num, encs t.items, encs t.tail]) t.tail.length
      ⟨0, z, by omega, by omega, by simp -dsimp only [↓bp, bq, br, seval, tbGreat2]; try rfl, by simp -dsimp only [↓bp, bq, br, seval, tbGreat2, h5], by omega, by simp [bulks], by rw [List.drop_zero], rfl⟩ ?_
    rintro n2 v2 σ' ⟨j, y, hj, rfl, h7, h5', hy0, hy1, hy, rfl⟩
    have hbt2 := bulks_take t.tail j
    simp -dsimp only [↓bp, bq, br, seval, tbGreat2] at h7 h5'
    simp -dsimp only [↓bp, bq, br, seval, tbGreat2, h7, h5']
    refine gW_dec (fun hlt2 => ?_) (fun hge2 => ?_)
    · obtain ⟨k, hk⟩ : ∃ k, t.tail[j]? = some k := ⟨_, List.getElem?_eq_getElem (by omega)⟩
      have hkm : k ∈ t.tail := List.mem_of_getElem? hk
      have hkb := bulk_mem hkm
      have hko := termsOf_le k (m - y)
      have hdr := drop_get _ _ _ hk
      simp -dsimp only [↓bp, bq, br, seval, tbGreat2, h7, h5', hk, hlt2]
      refine condW_dec (fun hle => ?_) (fun hnle => ?_)
      · have hw : IntKind.i64.wrap (m - y) = m - y := wrap_nat (by omega) (by omega)
        simp -dsimp only [↓bp, bq, br, seval, tbGreat2, h7, h5', hk, hlt2, hle, hw]
        refine Pure.use (ih2 k hkm (m - y) (by omega) (by omega) (by omega)) ?_
        simp -dsimp only [↓bp, bq, br, seval, tbGreat2, h7, h5', hk, hlt2, hle, hw]
        refine ⟨t.tail.length - (j + 1), by omega, j + 1, y + termsOf k (m - y), by omega, rfl, ?_, ?_, by omega, ?_, ?_⟩
        · rw [wrap_nat (by omega) (by omega)]; rfl
        · rw [wrap_nat (by omega) (by omega)]
        · rw [take_succ_get _ _ _ hk, bulks_append]
          simp only [bulks]
          omega
        · rw [← hy, hdr, termsLoop, if_pos hle]
      · simp -dsimp only [↓bp, bq, br, seval, tbGreat2, h7, h5', hk, hlt2, hnle]
        refine finish_pure ?_ (le_set hb (AS.le.refl σ))
        rw [hde, ← hy, hdr, termsLoop, if_neg hnle]
    · have : j = t.tail.length := by omega
      subst this
      simp -dsimp only [↓bp, bq, br, seval, tbGreat2, h7, h5', hge2]
      refine finish_pure ?_ (le_set hb (AS.le.refl σ))
      rw [hde, ← hy, List.drop_length, termsLoop]
def greats : List Term → Int → Int
  | [], n => n
  | t :: l, n => if n ≤ 6000 then greats l (n + termsOf t 6000) else n
end Go.Proofs.YtphnoaihojccbaaGreatDoor
set_option maxRecDepth 20000
namespace Go.Proofs.YtphnoaihojccbaaGreatDoor
open Go Go.Av
def tbSize := And.intro (And.intro (And.intro (And.intro @tf3 @tf4) (And.intro @tf5 (And.intro @tf85 @tf9))) (And.intro (And.intro @tf40 (And.intro @tf39 @tf22)) (And.intro @tf42 (And.intro @Term.flat_enc @Term.isv_enc)))) (And.intro (And.intro (And.intro @Term.fold_enc (And.intro @isv_encs @flat_encs)) (And.intro @len_encs (And.intro @ix_encs @ix_encs'))) (And.intro (And.intro @isv_lims (And.intro @flat_lims @len_lims)) (And.intro @ix_lims (And.intro @ix_lims' @flat_limA))))
variable (G : Nat → AV)
def lastOk (l : List UInt32) : Bool := match l[l.length - 1]? with | some x => decide ((x.toNat : Int) ≠ 0) | none => false
def wr (t : Term) : Bool :=
  decide (t.knd = 1) && decide (t.text = []) && decide (t.num = 0) && decide ((t.items.length : Int) + t.tail.length = 0) && decide ((t.limbs.length : Int) ≤ 32) && (decide ((t.limbs.length : Int) = 0) && !t.neg || decide (0 < (t.limbs.length : Int)) && lastOk t.limbs)
set_option maxHeartbeats 2000000 in
theorem wr_pure (t : Term) (hb : t.bulk ≤ 1000000000) : Pure Tryz.prog G 135 [t.enc] (.bool (wr t)) := by
  have h1 := len_limbs t
  have h2 := len_items t
  have h3 := len_tail t
  have hw1 : IntKind.i64.wrap ((t.items.length : Int) + t.tail.length) = t.items.length + t.tail.length := wrap_nat (by omega) (by omega)
  intro σ
  by_cases hl : 0 < (t.limbs.length : Int)
  · have hw2 : IntKind.i64.wrap ((t.limbs.length : Int) - 1) = ((t.limbs.length - 1 : Nat) : Int) := by rw [wrap_nat (by omega) (by omega)]; omega
    obtain ⟨x, hx⟩ : ∃ x, t.limbs[t.limbs.length - 1]? = some x := ⟨_, List.getElem?_eq_getElem (by omega)⟩
    have hlo : lastOk t.limbs = decide ((x.toNat : Int) ≠ 0) := by simp [lastOk, hx]
    have hl0 : ¬ (t.limbs.length : Int) = 0 := by omega
    clear h1 h2 h3 hb
    refine Tri.of_awp mixed Tryz.func135 rfl (by kernel_rfl) (by kernel_rfl) (by simp [Tryz.ntmps135]) Tryz.results135 ?_
    repeat' (first | refine xs ?_ ?_ <;> intros | ((first | refine xh ?_ | refine xi ?_); intro bx hbx; (try simp only [fb] at hbx)) | refine xj ?_ | ((with_reducible refine And.intro ?_ ?_); omega) | refine bo_buildSlice (d' := ⟨⟩) ?_ | refine xk (by kernel_rfl) ?_ | refine xf ?_ (by repeat' first | exact lr _ | assumption | refine ls ?_ ?_ | refine lt ?_ ?_ | simp only [*]; done | exact lf ‹_› (by simp only [*])) | simp -dsimp only [↓bp, bq, br, seval, tbSize, limA, *])
    all_goals (first | (simp only [wr, *, Bool.and_true, Bool.true_and, Bool.and_false, Bool.false_and, Bool.or_true, Bool.true_or, Bool.or_false, Bool.false_or, Bool.not_true, Bool.not_false, if_true, if_false, Bool.and_self, Bool.or_self]; done) | (simp [wr, *]; done) | (simp_all [wr]; done))
  · have hl0 : (t.limbs.length : Int) = 0 := by omega
    clear h1 h2 h3 hb
    refine Tri.of_awp mixed Tryz.func135 rfl (by kernel_rfl) (by kernel_rfl) (by simp [Tryz.ntmps135]) Tryz.results135 ?_
    repeat' (first | refine xs ?_ ?_ <;> intros | ((first | refine xh ?_ | refine xi ?_); intro bx hbx; (try simp only [fb] at hbx)) | refine xj ?_ | ((with_reducible refine And.intro ?_ ?_); omega) | refine bo_buildSlice (d' := ⟨⟩) ?_ | refine xk (by kernel_rfl) ?_ | refine xf ?_ (by repeat' first | exact lr _ | assumption | refine ls ?_ ?_ | refine lt ?_ ?_ | simp only [*]; done | exact lf ‹_› (by simp only [*])) | simp -dsimp only [↓bp, bq, br, seval, tbSize, limA, *])
    all_goals (first | (simp only [wr, *, Bool.and_true, Bool.true_and, Bool.and_false, Bool.false_and, Bool.or_true, Bool.true_or, Bool.or_false, Bool.false_or, Bool.not_true, Bool.not_false, if_true, if_false, Bool.and_self, Bool.or_self]; done) | (simp [wr, *]; done) | (simp_all [wr]; done))
def bare (t : Term) (text num items tail : Bool) : Bool :=
  !t.neg && decide ((t.limbs.length : Int) = 0) && (text || decide (t.text = [])) && (num || decide (t.num = 0)) && (items || decide ((t.items.length : Int) = 0)) && (tail || decide ((t.tail.length : Int) = 0))
set_option maxHeartbeats 2000000 in
theorem bare_pure0 (t : Term) : Pure Tryz.prog G 136 [t.enc, .bool true, .bool false, .bool false, .bool false] (.bool (bare t true false false false)) := by
  intro σ
  refine Tri.of_awp mixed Tryz.func136 rfl (by kernel_rfl) (by kernel_rfl) (by simp [Tryz.ntmps136]) Tryz.results136 ?_
  repeat' (first | refine xs ?_ ?_ <;> intros | ((first | refine xh ?_ | refine xi ?_); intro bx hbx; (try simp only [fb] at hbx)) | refine xj ?_ | ((with_reducible refine And.intro ?_ ?_); omega) | refine bo_buildSlice (d' := ⟨⟩) ?_ | refine xk (by kernel_rfl) ?_ | refine xf ?_ (by repeat' first | exact lr _ | assumption | refine ls ?_ ?_ | refine lt ?_ ?_ | simp only [*]; done | exact lf ‹_› (by simp only [*])) | simp -dsimp only [↓bp, bq, br, seval, tbSize, *])
  all_goals (first | (simp only [bare, *, Bool.and_true, Bool.true_and, Bool.and_false, Bool.false_and, Bool.or_true, Bool.true_or, Bool.or_false, Bool.false_or, Bool.not_true, Bool.not_false, if_true, if_false, Bool.and_self, Bool.or_self]; done) | (simp [bare, *]; done) | (simp_all [bare]; done))
set_option maxHeartbeats 2000000 in
theorem bare_pure1 (t : Term) : Pure Tryz.prog G 136 [t.enc, .bool false, .bool true, .bool false, .bool false] (.bool (bare t false true false false)) := by
  intro σ
  refine Tri.of_awp mixed Tryz.func136 rfl (by kernel_rfl) (by kernel_rfl) (by simp [Tryz.ntmps136]) Tryz.results136 ?_
  repeat' (first | refine xs ?_ ?_ <;> intros | ((first | refine xh ?_ | refine xi ?_); intro bx hbx; (try simp only [fb] at hbx)) | refine xj ?_ | ((with_reducible refine And.intro ?_ ?_); omega) | refine bo_buildSlice (d' := ⟨⟩) ?_ | refine xk (by kernel_rfl) ?_ | refine xf ?_ (by repeat' first | exact lr _ | assumption | refine ls ?_ ?_ | refine lt ?_ ?_ | simp only [*]; done | exact lf ‹_› (by simp only [*])) | simp -dsimp only [↓bp, bq, br, seval, tbSize, *])
  all_goals (first | (simp only [bare, *, Bool.and_true, Bool.true_and, Bool.and_false, Bool.false_and, Bool.or_true, Bool.true_or, Bool.or_false, Bool.false_or, Bool.not_true, Bool.not_false, if_true, if_false, Bool.and_self, Bool.or_self]; done) | (simp [bare, *]; done) | (simp_all [bare]; done))
set_option maxHeartbeats 2000000 in
theorem bare_pure2 (t : Term) : Pure Tryz.prog G 136 [t.enc, .bool false, .bool true, .bool true, .bool false] (.bool (bare t false true true false)) := by
  intro σ
  refine Tri.of_awp mixed Tryz.func136 rfl (by kernel_rfl) (by kernel_rfl) (by simp [Tryz.ntmps136]) Tryz.results136 ?_
  repeat' (first | refine xs ?_ ?_ <;> intros | ((first | refine xh ?_ | refine xi ?_); intro bx hbx; (try simp only [fb] at hbx)) | refine xj ?_ | ((with_reducible refine And.intro ?_ ?_); omega) | refine bo_buildSlice (d' := ⟨⟩) ?_ | refine xk (by kernel_rfl) ?_ | refine xf ?_ (by repeat' first | exact lr _ | assumption | refine ls ?_ ?_ | refine lt ?_ ?_ | simp only [*]; done | exact lf ‹_› (by simp only [*])) | simp -dsimp only [↓bp, bq, br, seval, tbSize, *])
  all_goals (first | (simp only [bare, *, Bool.and_true, Bool.true_and, Bool.and_false, Bool.false_and, Bool.or_true, Bool.true_or, Bool.or_false, Bool.false_or, Bool.not_true, Bool.not_false, if_true, if_false, Bool.and_self, Bool.or_self]; done) | (simp [bare, *]; done) | (simp_all [bare]; done))
set_option maxHeartbeats 2000000 in
theorem bare_pure3 (t : Term) : Pure Tryz.prog G 136 [t.enc, .bool false, .bool false, .bool true, .bool false] (.bool (bare t false false true false)) := by
  intro σ
  refine Tri.of_awp mixed Tryz.func136 rfl (by kernel_rfl) (by kernel_rfl) (by simp [Tryz.ntmps136]) Tryz.results136 ?_
  repeat' (first | refine xs ?_ ?_ <;> intros | ((first | refine xh ?_ | refine xi ?_); intro bx hbx; (try simp only [fb] at hbx)) | refine xj ?_ | ((with_reducible refine And.intro ?_ ?_); omega) | refine bo_buildSlice (d' := ⟨⟩) ?_ | refine xk (by kernel_rfl) ?_ | refine xf ?_ (by repeat' first | exact lr _ | assumption | refine ls ?_ ?_ | refine lt ?_ ?_ | simp only [*]; done | exact lf ‹_› (by simp only [*])) | simp -dsimp only [↓bp, bq, br, seval, tbSize, *])
  all_goals (first | (simp only [bare, *, Bool.and_true, Bool.true_and, Bool.and_false, Bool.false_and, Bool.or_true, Bool.true_or, Bool.or_false, Bool.false_or, Bool.not_true, Bool.not_false, if_true, if_false, Bool.and_self, Bool.or_self]; done) | (simp [bare, *]; done) | (simp_all [bare]; done))
set_option maxHeartbeats 2000000 in
theorem bare_pure4 (t : Term) : Pure Tryz.prog G 136 [t.enc, .bool false, .bool false, .bool true, .bool true] (.bool (bare t false false true true)) := by
  intro σ
  refine Tri.of_awp mixed Tryz.func136 rfl (by kernel_rfl) (by kernel_rfl) (by simp [Tryz.ntmps136]) Tryz.results136 ?_
  repeat' (first | refine xs ?_ ?_ <;> intros | ((first | refine xh ?_ | refine xi ?_); intro bx hbx; (try simp only [fb] at hbx)) | refine xj ?_ | ((with_reducible refine And.intro ?_ ?_); omega) | refine bo_buildSlice (d' := ⟨⟩) ?_ | refine xk (by kernel_rfl) ?_ | refine xf ?_ (by repeat' first | exact lr _ | assumption | refine ls ?_ ?_ | refine lt ?_ ?_ | simp only [*]; done | exact lf ‹_› (by simp only [*])) | simp -dsimp only [↓bp, bq, br, seval, tbSize, *])
  all_goals (first | (simp only [bare, *, Bool.and_true, Bool.true_and, Bool.and_false, Bool.false_and, Bool.or_true, Bool.true_or, Bool.or_false, Bool.false_or, Bool.not_true, Bool.not_false, if_true, if_false, Bool.and_self, Bool.or_self]; done) | (simp [bare, *]; done) | (simp_all [bare]; done))
end Go.Proofs.YtphnoaihojccbaaGreatDoor
set_option maxRecDepth 20000
namespace Go.Proofs.YtphnoaihojccbaaGreatDoor
open Go Go.Av
def tbSize2 := And.intro (And.intro (And.intro (And.intro @tf3 @tf4) (And.intro @tf5 (And.intro @tf85 @tf9))) (And.intro (And.intro @tf40 (And.intro @tf39 @tf22)) (And.intro @tf42 (And.intro @Term.flat_enc @Term.isv_enc)))) (And.intro (And.intro (And.intro @Term.fold_enc (And.intro @isv_encs @flat_encs)) (And.intro @len_encs (And.intro @ix_encs @ix_encs'))) (And.intro (And.intro @isv_lims (And.intro @flat_lims @len_lims)) (And.intro @ix_lims (And.intro @ix_lims' @flat_limA))))
variable (G : Nat → AV)
def head (t : Term) : Int × Int × Bool :=
  if t.knd = 2 then (1, 0, bare t true false false false && decide ((t.text.length : Int) ≤ 40))
  else if t.knd = 3 ∨ t.knd = 5 then (1, 0, bare t false true false false && decide (0 ≤ t.num) && decide (t.num ≤ 1099511627776))
  else if t.knd = 4 then (2, 0, bare t false true true false && decide (0 ≤ t.num) && decide (t.num ≤ 16384))
  else if t.knd = 6 then (1, 0, bare t false false true false)
  else if t.knd = 7 then (1, 1, bare t false false true true && decide ((t.tail.length : Int) ≤ if (t.items.length : Int) < 1 then (t.items.length : Int) else 1) && t.tail.all fun x => decide (x.knd ≠ 7))
  else (1, 0, false)
mutual
def size : Term → Int
  | .mk k g l s n ks ts =>
    if (k.toNat : Int) = 1 then (if wr (.mk k g l s n ks ts) = true then 1 + l.length else 0) else
      let h := head (.mk k g l s n ks ts)
      let a := adds ks h.2.1 (h.1, h.2.2)
      let b := adds ts 0 a
      if b.2 = true then b.1 else 0
def adds : List Term → Int → Int × Bool → Int × Bool
  | [], _, a => a
  | k :: ks, each, a => if a.2 = true then adds ks each (a.1 + size k + each, decide (0 < size k) && decide (a.1 + size k + each ≤ 4096)) else a
end
theorem size_eq (t : Term) : size t = if t.knd = 1 then (if wr t = true then (1 + t.limbs.length : Int) else 0) else
    if (adds t.tail 0 (adds t.items (head t).2.1 ((head t).1, (head t).2.2))).2 = true then (adds t.tail 0 (adds t.items (head t).2.1 ((head t).1, (head t).2.2))).1 else 0 := by
  cases t; rw [size]; rfl
theorem adds_le (l : List Term) (h : ∀ x, x ∈ l → 0 ≤ size x ∧ size x ≤ 4096) (each : Int) (he0 : 0 ≤ each) (he1 : each ≤ 1) : ∀ a : Int × Bool, 0 < a.1 → (a.2 = true → a.1 ≤ 4096) → a.1 ≤ 10000 →
    0 < (adds l each a).1 ∧ ((adds l each a).2 = true → (adds l each a).1 ≤ 4096) ∧ (adds l each a).1 ≤ 10000 := by
  induction l with
  | nil => intro a h1 h2 h3; exact ⟨h1, h2, h3⟩
  | cons x l ih =>
    intro a h1 h2 h3
    have hx := h x (by simp)
    simp only [adds]
    split
    · rename_i hf
      have := h2 hf
      refine ih (fun y hy => h y (by simp [hy])) _ (by simp only; omega) (fun hh => ?_) (by simp only; omega)
      simp only [Bool.and_eq_true, decide_eq_true_eq] at hh
      exact hh.2
    · exact ⟨h1, h2, h3⟩
theorem head_le (t : Term) : 0 < (head t).1 ∧ (head t).1 ≤ 2 ∧ 0 ≤ (head t).2.1 ∧ (head t).2.1 ≤ 1 := by
  unfold head; split <;> (try split) <;> (try split) <;> (try split) <;> (try split) <;> simp
theorem size_le (t : Term) : 0 ≤ size t ∧ size t ≤ 4096 := by
  refine Term.ind (P := fun t => 0 ≤ size t ∧ size t ≤ 4096) (fun t ih1 ih2 => ?_) t
  obtain ⟨h1, h2, h3, h4⟩ := head_le t
  have a := adds_le t.items ih1 _ h3 h4 ((head t).1, (head t).2.2) h1 (fun _ => by simp only; omega) (by simp only; omega)
  have b := adds_le t.tail ih2 0 (by omega) (by omega) _ a.1 a.2.1 a.2.2
  rw [size_eq]
  split
  · split
    · rename_i hw
      simp only [wr, Bool.and_eq_true, decide_eq_true_eq] at hw
      omega
    · omega
  · split
    · rename_i hf
      have := b.2.1 hf
      omega
    · omega
theorem adds_false (l : List Term) (each n : Int) : adds l each (n, false) = (n, false) := by cases l <;> simp [adds]
theorem adds_tri (l : List Term) (each : Int) (he0 : 0 ≤ each) (he1 : each ≤ 1) (hl : l.length ≤ 1000000000) (hf : ∀ x, x ∈ l → Pure Tryz.prog G 96 [x.enc] (.int .i64 (size x))) (σ : AS) (bf bn : Nat) (hne : bf ≠ bn) (n : Int) (f : Bool)
    (hbf : σ.box bf = some [.bool f]) (hbn : σ.box bn = some [.int .i64 n]) (hn0 : 0 < n) (hn1 : f = true → n ≤ 4096) (hn2 : n ≤ 10000) :
    Tri Tryz.prog G 137 [encs l, .int .i64 each, .ptr bf 0, .ptr bn 0] σ fun r σ' => σ' = (σ.setBox bn [.int .i64 (adds l each (n, f)).1]).setBox bf [.bool (adds l each (n, f)).2] := by
  have hnb : bn ≠ bf := Ne.symm hne
  have hid : σ = (σ.setBox bn [.int .i64 n]).setBox bf [.bool f] := by
    unfold AS.setBox; cases σ with
    | mk box tip ty =>
      simp only [AS.mk.injEq, and_true]
      funext i
      split
      · rename_i h; subst h; exact hbf
      · split
        · rename_i h; subst h; exact hbn
        · rfl
  have sw : ∀ (m m' : Int) (g g' : Bool), (((σ.setBox bn [.int .i64 m]).setBox bf [.bool g]).setBox bn [.int .i64 m']).setBox bf [.bool g'] = (σ.setBox bn [.int .i64 m']).setBox bf [.bool g'] := fun m m' g g' => by
    unfold AS.setBox
    congr 1
    funext i
    simp only
    by_cases h1 : i = bf
    · simp [h1]
    · by_cases h2 : i = bn
      · simp [h1, h2]
      · simp [h1, h2]
  refine Tri.of_awp mixed Tryz.func137 rfl (by kernel_rfl) (by kernel_rfl) (by simp [Tryz.ntmps137]) Tryz.results137 ?_
  simp -dsimp only [↓bp, bq, br, seval, tbSize2]
  refine loop_intro (fun k e σ' => ∃ (i : Nat) (a : Int × Bool), i ≤ l.length ∧ k = l.length - i ∧ e 6 = .int .i64 i ∧ 0 < a.1 ∧ (a.2 = true → a.1 ≤ 4096) ∧ a.1 ≤ 10000 ∧ adds (l.drop i) each a = adds l each (n, f) ∧ σ' = (σ.setBox bn [.int .i64 a.1]).setBox bf [.bool a.2]) l.length
    ⟨0, (n, f), by omega, by omega, by simp -dsimp only [↓bp, bq, br, seval, tbSize2]; try rfl, hn0, hn1, hn2, by rw [List.drop_zero], hid⟩ ?_
  rintro k v σ' ⟨i, ⟨m, g⟩, hi, rfl, h6, hm0, hm1, hm2, ha, rfl⟩
  simp only at hm0 hm1 hm2 ⊢
  simp -dsimp only [↓bp, bq, br, seval, tbSize2] at h6
  simp -dsimp only [↓bp, bq, br, seval, tbSize2, h6]
  refine gW_dec (fun hlt => ?_) (fun hge => ?_)
  · obtain ⟨x, hx⟩ : ∃ x, l[i]? = some x := ⟨_, List.getElem?_eq_getElem (by omega)⟩
    have hxm : x ∈ l := List.mem_of_getElem? hx
    have hs := size_le x
    have hdr := drop_get _ _ _ hx
    have hp := hf x hxm
    cases g with
    | false =>
      simp -dsimp only [↓bp, bq, br, seval, tbSize2, h6, hx, hlt, hne, hnb]
      refine ⟨_, _, rfl, AS.le.refl _, ?_⟩
      rw [← ha, adds_false]
    | true =>
      have hm1 := hm1 rfl
      have hw1 : IntKind.i64.wrap (size x + each) = size x + each := wrap_nat (by omega) (by omega)
      have hw2 : IntKind.i64.wrap (m + (size x + each)) = m + size x + each := by rw [wrap_nat (by omega) (by omega)]; omega
      simp -dsimp only [↓bp, bq, br, seval, tbSize2, h6, hx, hlt, hne, hnb]
      refine Pure.use hp ?_
      simp -dsimp only [↓bp, bq, br, seval, tbSize2, h6, hx, hlt, hne, hnb, hw1, hw2]
      have hnx : adds (l.drop (i + 1)) each (m + size x + each, decide (0 < size x) && decide (m + size x + each ≤ 4096)) = adds l each (n, f) := by rw [← ha, hdr]; simp [adds]
      refine gW_dec (fun h0 => ?_) (fun h0 => ?_)
      · simp -dsimp only [↓bp, bq, br, seval, tbSize2, h6, hx, hlt, hne, hnb, hw1, hw2, h0]
        refine ⟨l.length - (i + 1), by omega, i + 1, (m + size x + each, decide (0 < size x) && decide (m + size x + each ≤ 4096)), by omega, rfl, by rw [wrap_nat (by omega) (by omega)]; rfl, by simp only; omega, ?_, by simp only; omega, hnx, ?_⟩
        · intro hh
          simp only [Bool.and_eq_true, decide_eq_true_eq] at hh
          exact hh.2
        · simp only [h0, decide_true, Bool.true_and]
          exact sw _ _ _ _
      · simp -dsimp only [↓bp, bq, br, seval, tbSize2, h6, hx, hlt, hne, hnb, hw1, hw2, h0]
        refine ⟨l.length - (i + 1), by omega, i + 1, (m + size x + each, decide (0 < size x) && decide (m + size x + each ≤ 4096)), by omega, rfl, by rw [wrap_nat (by omega) (by omega)]; rfl, by simp only; omega, ?_, by simp only; omega, hnx, ?_⟩
        · intro hh
          simp only [Bool.and_eq_true, decide_eq_true_eq] at hh
          exact hh.2
        · simp only [h0, decide_false, Bool.false_and]
          exact sw _ _ _ _
  · have : i = l.length := by omega
    subst this
    rw [List.drop_length] at ha
    simp -dsimp only [↓bp, bq, br, seval, tbSize2, h6, hge]
    refine ⟨_, _, rfl, AS.le.refl _, ?_⟩
    rw [← ha]; rfl
end Go.Proofs.YtphnoaihojccbaaGreatDoor
