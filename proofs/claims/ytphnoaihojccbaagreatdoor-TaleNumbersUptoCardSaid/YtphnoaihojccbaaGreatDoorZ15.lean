/- The chapter's examples. -/
import Derived.Test.YtphnoaihojccbaaGreatDoorZ09
import Derived.Test.YtphnoaihojccbaaGreatDoorZ11
import Derived.Test.YtphnoaihojccbaaGreatDoorZ13
import Derived.Test.YtphnoaihojccbaaGreatDoorZ10
import Derived.Test.YtphnoaihojccbaaGreatDoorZ14
import Derived.Test.YtphnoaihojccbaaGreatDoorRows
import Derived.Test.YtphnoaihojccbaaGreatDoorZ08
set_option linter.unusedVariables false
set_option linter.unusedSimpArgs false
set_option maxRecDepth 20000
set_option linter.defProp false
namespace Go.Proofs.YtphnoaihojccbaaGreatDoor
open Go Go.Av
def tbTaleW := And.intro (And.intro (And.intro (And.intro (And.intro @tf3 @tf4) (And.intro @tf5 (And.intro @tf85 @tf9))) (And.intro (And.intro @tf31 @tf40) (And.intro @tf39 (And.intro @tf22 @tf42)))) (And.intro (And.intro (And.intro @tf23 @tf44) (And.intro @tf24 (And.intro @tf46 @tf26))) (And.intro (And.intro @Term.flat_enc @Term.isv_enc) (And.intro @Term.fold_enc (And.intro @isv_encs @flat_encs))))) (And.intro (And.intro (And.intro (And.intro @len_encs @ix_encs) (And.intro @isv_lims (And.intro @flat_lims @len_lims))) (And.intro (And.intro @Ended.flat_enc @Ended.isv_enc) (And.intro @Named.flat_enc (And.intro @Named.isv_enc @Named.fold_enc)))) (And.intro (And.intro (And.intro @Seen.flat_enc @Seen.isv_enc) (And.intro @isv_encE (And.intro @flat_encE @len_encE))) (And.intro (And.intro @ix_encE @isv_encN) (And.intro @flat_encN (And.intro @len_encN @ix_encN)))))
variable {G : Nat → AV}
def aT : Term := atomTm [97]
def bT : Term := atomTm [98]
def nT : Term := atomTm [110, 111, 114, 109, 97, 108]
def smallS : Seen := ⟨[aT], [⟨1, nT⟩], [⟨[115, 114, 118], 2⟩], 2, 9, 0⟩
def moreS : Seen := ⟨[aT, bT], [⟨1, nT⟩], [⟨[115, 114, 118], 2⟩], 2, 9, 0⟩
def smallF : AV := .agg [.sl .full [aT.enc] [], .sl .full [(Ended.mk 1 nT).enc] [], .sl .full [(Named.mk [115, 114, 118] 2).enc] [], .int .i64 2, .int .i64 9, .int .i64 0]
theorem seen_le (s : Seen) {cs : List AV} (h : Les cs [encs s.out, encE s.ended, encN s.names, .int .i64 s.verdict, .int .i64 s.spent, .int .i64 s.clock]) : Le (.agg cs) s.enc := by
  rw [← Seen.fold_enc s]
  exact Le.agg h (fun d hd => by simp at hd; rcases hd with rfl | rfl | rfl | rfl | rfl | rfl <;> rfl)
theorem small_le : Le smallF smallS.enc := seen_le smallS (.cons Le.gh (.cons Le.gh (.cons Le.gh (.cons (Le.refl _) (.cons (Le.refl _) (.cons (Le.refl _) .nil))))))
theorem atomK_pure (s : List UInt8) : Pure Tryz.prog G 20 [.str s] (atomTm s).enc := by
  refine Pure.of_le fun σ => ?_
  refine Tri.of_awp mixed Tryz.func20 rfl (by kernel_rfl) (by kernel_rfl) (by simp [Tryz.ntmps20]) Tryz.results20 ?_
  repeat' (first | refine xs ?_ ?_ <;> intros | ((first | refine xh ?_ | refine xi ?_); intro bx hbx; (try simp only [fb] at hbx)) | refine xj ?_ | ((with_reducible refine And.intro ?_ ?_); omega) | refine bo_buildSlice (d' := ⟨⟩) ?_ | refine xk (by kernel_rfl) ?_ | refine xf ?_ (by repeat' first | exact lr _ | assumption | refine ls ?_ ?_ | refine lt ?_ ?_ | simp only [*]; done | exact lf ‹_› (by simp only [*])) | simp -dsimp only [↓bp, bq, br, seval, tbTaleW, *])
  exact finish_le (enc_nil 2 false s 0) (by repeat' first | exact lr _ | assumption | refine ls ?_ ?_ | refine lt ?_ ?_ | simp only [*]; done | exact lf ‹_› (by simp only [*]))
theorem small_pure : Pure Tryz.prog G 18 [] smallF := by
  have h1 : Pure Tryz.prog G 20 [.str [97]] aT.enc := atomK_pure _
  have h2 : Pure Tryz.prog G 20 [.str [110, 111, 114, 109, 97, 108]] nT.enc := atomK_pure _
  intro σ
  refine Tri.of_awp mixed Tryz.func18 rfl (by kernel_rfl) (by kernel_rfl) (by simp [Tryz.ntmps18]) Tryz.results18 ?_
  repeat' (first | refine xs ?_ ?_ <;> intros | ((first | refine xh ?_ | refine xi ?_); intro bx hbx; (try simp only [fb] at hbx)) | refine Pure.use (h1) ?_ | refine Pure.head (h1) ?_ | refine Pure.use (h2) ?_ | refine Pure.head (h2) ?_ | refine xj ?_ | ((with_reducible refine And.intro ?_ ?_); omega) | refine bo_buildSlice (d' := ⟨⟩) ?_ | refine xk (by kernel_rfl) ?_ | refine xf ?_ (by repeat' first | exact lr _ | assumption | refine ls ?_ ?_ | refine lt ?_ ?_ | simp only [*]; done | exact lf ‹_› (by simp only [*])) | simp -dsimp only [↓bp, bq, br, seval, tbTaleW, *])
  all_goals rfl
theorem small_rng : smallS.Rng := ⟨fun e he => by simp [smallS] at he; subst he; unfold i64R; decide, fun n hn => by simp [smallS] at hn; subst hn; unfold i64R; decide, by unfold i64R; decide, by unfold i64R; decide, by unfold i64R; decide⟩
def lines6 : List (List UInt8) := [[111, 117, 116, 32, 97], [101, 110, 100, 101, 100, 32, 49, 32, 110, 111, 114, 109, 97, 108], [110, 97, 109, 101, 32, 115, 114, 118, 32, 50], [118, 101, 114, 100, 105, 99, 116, 32, 50], [115, 112, 101, 110, 116, 32, 57], [99, 108, 111, 99, 107, 32, 48]]
theorem small_lines : tlines smallS = lines6 := by decide +kernel
theorem small_bulk : smallS.bulk ≤ 2000000 := by decide
theorem more_bulk : moreS.bulk ≤ 2000000 := by decide
theorem same_more : sameS smallS moreS = false := by
  rw [Bool.eq_false_iff]
  intro h
  have := congrArg (fun s => s.out.length) ((sameS_iff _ _).1 h)
  simp [smallS, moreS] at this
theorem within_more : within smallS moreS = true := (within_iff _ _).2 ⟨by decide, by decide, ⟨[bT], rfl⟩, List.prefix_refl _⟩
theorem more_within : within moreS smallS = false := by
  rw [Bool.eq_false_iff]
  intro h
  have := ((within_iff _ _).1 h).2.2.1.length_le
  simp [smallS, moreS] at this
theorem le_fullX (l : List (List UInt8)) : Le (.sl .full (l.map AV.str) []) (texts l) := Le.gh
set_option maxHeartbeats 2000000 in
theorem awake_pure (hg : GlobT G) : Pure Tryz.prog G 6 [] (.bool true) := by
  have hs : Pure Tryz.prog G 18 [] smallF := small_pure
  have hb : Pure Tryz.prog G 20 [.str [98]] bT.enc := atomK_pure _
  have ht := (taleText_pure hg smallS small_bulk small_rng).lessArgs (.cons small_le .nil)
  rw [small_lines] at ht
  have hx := (sameX_pure G lines6 lines6 (by decide) (by decide)).lessArgs (args := [texts lines6, .sl .full (lines6.map AV.str) []]) (.cons (Le.refl _) (.cons (le_fullX _) .nil))
  rw [decide_eq_true rfl] at hx
  have h1 := (sameS_pure G smallS smallS (by have := small_bulk; omega) (by have := small_bulk; omega)).lessArgs (.cons small_le (.cons small_le .nil))
  rw [(sameS_iff _ _).2 rfl] at h1
  have h2 := sameS_pure G smallS moreS (by have := small_bulk; omega) (by have := more_bulk; omega)
  have h3 := within_pure G smallS moreS (by have := small_bulk; omega) (by have := more_bulk; omega)
  have h4 := within_pure G moreS smallS (by have := more_bulk; omega) (by have := small_bulk; omega)
  rw [same_more] at h2
  rw [within_more] at h3
  rw [more_within] at h4
  unfold smallF at hs ht h1
  clear hg
  intro σ
  refine Tri.of_awp mixed Tryz.func6 rfl (by kernel_rfl) (by kernel_rfl) (by simp [Tryz.ntmps6]) Tryz.results6 ?_
  repeat' (first | refine xs ?_ ?_ <;> intros | ((first | refine xh ?_ | refine xi ?_); intro bx hbx; (try simp only [fb] at hbx)) | refine Pure.use (hs) ?_ | refine Pure.head (hs) ?_ | refine Pure.use (hb) ?_ | refine Pure.head (hb) ?_ | refine xj ?_ | ((with_reducible refine And.intro ?_ ?_); omega) | refine bo_buildSlice (d' := ⟨⟩) ?_ | refine xk (by kernel_rfl) ?_ | refine xf ?_ (by repeat' first | exact lr _ | assumption | refine ls ?_ ?_ | refine lt ?_ ?_ | simp only [*]; done | exact lf ‹_› (by simp only [*])) | simp -dsimp only [↓bp, bq, br, seval, tbTaleW, *])
  obtain ⟨S, hS⟩ : ∃ S, S = σ.setBox bx [.sl .full [aT.enc] [], .sl .full [(Ended.mk 1 nT).enc] [], .sl .full [(Named.mk [115, 114, 118] 2).enc] [], .int .i64 2, .int .i64 9, .int .i64 0] := ⟨_, rfl⟩
  have hle : σ.le S := by rw [hS]; exact le_set hbx (AS.le.refl σ)
  have hSb : S.box bx = some [.sl .full [aT.enc] [], .sl .full [(Ended.mk 1 nT).enc] [], .sl .full [(Named.mk [115, 114, 118] 2).enc] [], .int .i64 2, .int .i64 9, .int .i64 0] := by rw [hS]; simp [AS.setBox]
  rw [← hS]
  refine app_full (ys := [bT.enc]) (σ0 := S) (AS.le.refl _) (fun a ha => by simp at ha; subst ha; rw [Term.flat_enc]; rfl) tfN (asrc_sl tfE) (fun a ha => by simp at ha; subst ha; rw [Term.flat_enc]; rfl) (by simp) (fun h => by cases h) (fun v3 σ3 hB4 hx4 => ?_)
  obtain ⟨p1, p2, p3⟩ := buf_one hB4
  have hb3 : σ3.box bx = some [.sl .full [aT.enc] [], .sl .full [(Ended.mk 1 nT).enc] [], .sl .full [(Named.mk [115, 114, 118] 2).enc] [], .int .i64 2, .int .i64 9, .int .i64 0] := by rw [hx4]; exact hSb
  have hm : Le (.agg [v3, .sl .full [(Ended.mk 1 nT).enc] [], .sl .full [(Named.mk [115, 114, 118] 2).enc] [], .int .i64 2, .int .i64 9, .int .i64 0]) moreS.enc :=
    seen_le moreS (.cons hB4.told (.cons Le.gh (.cons Le.gh (.cons (Le.refl _) (.cons (Le.refl _) (.cons (Le.refl _) .nil))))))
  have hsm := small_le
  unfold smallF at hsm
  have h2 := h2.lessArgs (.cons hsm (.cons hm .nil))
  have h3 := h3.lessArgs (.cons hsm (.cons hm .nil))
  have h4 := h4.lessArgs (.cons hm (.cons hsm .nil))
  have hfin : σ.le (σ3.setBox bx [v3, .sl .full [(Ended.mk 1 nT).enc] [], .sl .full [(Named.mk [115, 114, 118] 2).enc] [], .int .i64 2, .int .i64 9, .int .i64 0]) := le_set hbx (hle.trans hB4.le)
  clear hm hsm hB4 hx4 hle hS hSb hb
  repeat' (first | refine xs ?_ ?_ <;> intros | ((first | refine xh ?_ | refine xi ?_); intro bx hbx; (try simp only [fb] at hbx)) | refine Pure.use (hs) ?_ | refine Pure.head (hs) ?_ | refine Pure.use (ht) ?_ | refine Pure.head (ht) ?_ | refine Pure.use (hx) ?_ | refine Pure.head (hx) ?_ | refine Pure.use (h1) ?_ | refine Pure.head (h1) ?_ | refine Pure.use (h2) ?_ | refine Pure.head (h2) ?_ | refine Pure.use (h3) ?_ | refine Pure.head (h3) ?_ | refine Pure.use (h4) ?_ | refine Pure.head (h4) ?_ | refine xj ?_ | ((with_reducible refine And.intro ?_ ?_); omega) | refine bo_buildSlice (d' := ⟨⟩) ?_ | refine xk (by kernel_rfl) ?_ | refine xf ?_ (by repeat' first | exact lr _ | assumption | refine ls ?_ ?_ | refine lt ?_ ?_ | simp only [*]; done | exact lf ‹_› (by simp only [*])) | simp -dsimp only [↓bp, bq, br, seval, tbTaleW, *])
  all_goals skip
end Go.Proofs.YtphnoaihojccbaaGreatDoor
set_option maxRecDepth 20000
namespace Go.Proofs.YtphnoaihojccbaaGreatDoor
open Go Go.Av
def tbLawTaleTells := And.intro (And.intro (And.intro (And.intro @tf3 (And.intro @tf4 @tf5)) (And.intro (And.intro @tf9 @tf31) (And.intro @tf35 @tf22))) (And.intro (And.intro (And.intro @tf23 @tf24) (And.intro @tf26 @isv_encs)) (And.intro (And.intro @flat_encs @len_encs) (And.intro @Seen.flat_enc @Seen.isv_enc)))) (And.intro (And.intro (And.intro (And.intro @Seen.fold_enc @isv_encE) (And.intro @flat_encE @len_encE)) (And.intro (And.intro @isv_encN @flat_encN) (And.intro @len_encN @Seen.flat_lent))) (And.intro (And.intro (And.intro @Seen.isv_lent @Seen.fold_lent) (And.intro @isv_lents @flat_lents)) (And.intro (And.intro @isv_lentsE @flat_lentsE) (And.intro @isv_lentsN @flat_lentsN))))
variable {G : Nat → AV}
theorem tells_great {a b : Seen} {x y : Bool} (h : x = true ∨ x = false ∧ y = true) (w : Pure Tryz.prog G 6 [] (.bool true)) (ga : Pure Tryz.prog G 5 [a.enc] (.bool x)) (gb : Pure Tryz.prog G 5 [b.enc] (.bool y)) : Pure Tryz.prog G 3 [a.enc, b.enc] (.bool true) := by
  rcases h with rfl | ⟨rfl, rfl⟩
  all_goals
    intro σ
    refine Tri.of_awp mixed Tryz.func3 rfl (by kernel_rfl) (by kernel_rfl) (by simp [Tryz.ntmps3]) Tryz.results3 ?_
    repeat' (first | refine xs ?_ ?_ <;> intros | ((first | refine xh ?_ | refine xi ?_); intro bx hbx; (try simp only [fb] at hbx)) | refine Pure.use (w) ?_ | refine Pure.head (w) ?_ | refine Pure.use (ga) ?_ | refine Pure.head (ga) ?_ | refine Pure.use (gb) ?_ | refine Pure.head (gb) ?_ | refine xj ?_ | ((with_reducible refine And.intro ?_ ?_); omega) | refine bo_buildSlice (d' := ⟨⟩) ?_ | refine xk (by kernel_rfl) ?_ | refine xf ?_ (by repeat' first | exact lr _ | assumption | refine ls ?_ ?_ | refine lt ?_ ?_ | simp only [*]; done | exact lf ‹_› (by simp only [*])) | simp -dsimp only [↓bp, bq, br, seval, tbLawTaleTells, *])
    all_goals rfl
theorem row_lend {σ : AS} {r : Nat} {L : List (List UInt8)} (hb : σ.box r = some (L.map AV.str)) : Lend G σ (.bs r L.length 1 9) (texts L) := by
  have h := Lend.row (G := G) (σ := σ) (b := r) (s := 1) (E := 9) (cs := L.map AV.str) (ds := L.map AV.str) hb (by rw [List.take_length]; exact Lends.ids _) (Nat.le_refl _) (xs := L.map AV.str) (sp := []) (by
    rw [List.append_nil]
    clear hb
    induction L with
    | nil => rfl
    | cons x l ih => rw [List.map_cons, List.flatMap_cons, ih]; rfl) (by omega) (fun e he => by
    rw [List.append_nil] at he
    obtain ⟨x, _, rfl⟩ := List.mem_map.1 he
    exact ⟨rfl, rfl, fun c hc => by simp [flat] at hc; subst hc; rfl⟩)
  rw [List.length_map] at h
  exact h
theorem two_rows {r1 r2 n m : Nat} (h : r1 ≠ r2) : Distinct [some (r1, n), some (r2, m)] := by
  intro i j b n' m' hi hj
  match i, j, hi, hj with
  | 0, 0, hi, hj => rfl
  | 0, 1, hi, hj => simp at hi hj; exact absurd (hi.1.trans hj.1.symm) h
  | 1, 0, hi, hj => simp at hi hj; exact absurd (hj.1.trans hi.1.symm) h
  | 1, 1, hi, hj => rfl
  | 0, j + 2, hi, hj => simp at hj
  | 1, j + 2, hi, hj => simp at hj
  | i + 2, j, hi, hj => simp at hi
structure TT (G : Nat → AV) (a b : Seen) (S W : Bool) (L : List (List UInt8)) : Prop where
  w : Pure Tryz.prog G 6 [] (.bool true)
  ga : Pure Tryz.prog G 5 [a.enc] (.bool false)
  gb : Pure Tryz.prog G 5 [b.enc] (.bool false)
  la : Pure Tryz.prog G 7 [a.enc] a.lent
  lb : Pure Tryz.prog G 7 [b.enc] b.lent
  s : Pure Tryz.prog G 8 [a.lent, b.lent] (.bool S)
  wi : Pure Tryz.prog G 9 [a.lent, b.lent] (.bool W)
  rs : Pure Tryz.prog G 11 [a.enc, b.enc] (.bool S)
  rw_ : Pure Tryz.prog G 12 [a.enc, b.enc] (.bool W)
  rt : Pure Tryz.prog G 14 [a.enc] (texts L)
  tx : Pure Tryz.prog G 13 [texts L, texts L] (.bool true)
  ka : Pure Tryz.prog G 15 [a.lent, a.enc] (.bool true)
  kb : Pure Tryz.prog G 15 [b.lent, b.enc] (.bool true)
  tt : ∀ σ, Tri Tryz.prog G 10 [a.lent] σ fun r σ' => MadeRow L.length 1 9 (L.map AV.str) σ r σ'
  hl : L.length ≤ 1000000000
set_option maxHeartbeats 1000000 in
theorem tells_go {a b : Seen} {S W : Bool} {L : List (List UInt8)} (h : TT G a b S W L) : Pure Tryz.prog G 3 [a.enc, b.enc] (.bool true) := by
  obtain ⟨w, ga, gb, la, lb, s, wi, rs, rw_, rt, tx, ka, kb, tt, hl⟩ := h
  intro σ
  refine Tri.back (Q := fun r => r = .bool true) ?_
  refine Tri.of_awp mixed Tryz.func3 rfl (by kernel_rfl) (by kernel_rfl) (by simp [Tryz.ntmps3]) Tryz.results3 ?_
  repeat' (first | refine xs ?_ ?_ <;> intros | ((first | refine xh ?_ | refine xi ?_); intro bx hbx; (try simp only [fb] at hbx)) | refine Pure.use (ga) ?_ | refine Pure.head (ga) ?_ | refine Pure.use (gb) ?_ | refine Pure.head (gb) ?_ | refine Pure.use (la) ?_ | refine Pure.head (la) ?_ | refine Pure.use (lb) ?_ | refine Pure.head (lb) ?_ | refine xj ?_ | ((with_reducible refine And.intro ?_ ?_); omega) | refine bo_buildSlice (d' := ⟨⟩) ?_ | refine xk (by kernel_rfl) ?_ | refine xf ?_ (by repeat' first | exact lr _ | assumption | refine ls ?_ ?_ | refine lt ?_ ?_ | simp only [*]; done | exact lf ‹_› (by simp only [*])) | simp -dsimp only [↓bp, bq, br, seval, tbLawTaleTells, *])
  repeat' (first | refine xs ?_ ?_ <;> intros | ((first | refine xh ?_ | refine xi ?_); intro bx hbx; (try simp only [fb] at hbx)) | refine Pure.use (s) ?_ | refine Pure.head (s) ?_ | refine Pure.use (wi) ?_ | refine Pure.head (wi) ?_ | ((refine draw_mk [1, 3] (fun _ => Mk.row L.length 1 9 (L.map AV.str)) 6 (by decide +kernel) rfl rfl ?_; intro hinf; refine m_read (v := a.lent) rfl (by simp only [rdv]; simp -dsimp only [↓bp, bq, br, seval, tbLawTaleTells, *]) ?_; with_reducible rename_i b1 h1 b2 h2 b3 h3; clear la lb s wi ga gb)) | refine xj ?_ | ((with_reducible refine And.intro ?_ ?_); omega) | refine bo_buildSlice (d' := ⟨⟩) ?_ | refine xk (by kernel_rfl) ?_ | refine xf ?_ (by repeat' first | exact lr _ | assumption | refine ls ?_ ?_ | refine lt ?_ ?_ | simp only [*]; done | exact lf ‹_› (by simp only [*])) | simp -dsimp only [↓bp, bq, br, seval, tbLawTaleTells, *])
  refine m_made rfl rfl (fun σ' hle => ?_) (fun r1 hf1 => ?_)
  · simp -dsimp only [↓bp, bq, br, seval, tbLawTaleTells]
    exact (tt σ').madeRow
  refine m_read (v := a.lent) rfl (by simp only [rdv]; simp -dsimp only [↓bp, bq, br, seval, tbLawTaleTells, *]) ?_
  refine m_made rfl rfl (fun σ' hle => ?_) (fun r2 hf2 => ?_)
  · simp -dsimp only [↓bp, bq, br, seval, tbLawTaleTells]
    exact (tt σ').madeRow
  refine m_read (v := .bs r1 L.length 1 9) rfl (by simp only [rdv]; simp -dsimp only [↓bp, bq, br, seval, tbLawTaleTells]; first | done | rfl) ?_
  refine m_read (v := .bs r2 L.length 1 9) rfl (by simp only [rdv]; simp -dsimp only [↓bp, bq, br, seval, tbLawTaleTells]; first | done | rfl) ?_
  rw [m_nil]
  simp only [free_box] at hf1 hf2
  simp only [Mk.row]
  have hne : r1 ≠ r2 := fun e => hf2.2.1 e.symm
  have z1 : σ.box r1 = none := hf1.1.1.1.1.1.1.1
  have z2 : σ.box r2 = none := hf2.1.1.1.1.1.1.1.1
  obtain ⟨σ2, hσ2⟩ : ∃ σ2, σ2 = (((((((σ.setBox b1 [encs a.out, encE a.ended, encN a.names, .int .i64 a.verdict, .int .i64 a.spent, .int .i64 a.clock]).setBox b2 [encs b.out, encE b.ended, encN b.names, .int .i64 b.verdict, .int .i64 b.spent, .int .i64 b.clock]).setBox b3 [.nil, .nil, .nil, .int .i64 0, .int .i64 0, .int .i64 0]).setBox bx [.nil, .nil, .nil, .int .i64 0, .int .i64 0, .int .i64 0]).setBox b3 [lents a.out, lentsE a.ended, lentsN a.names, .int .i64 a.verdict, .int .i64 a.spent, .int .i64 a.clock]).setBox bx [lents b.out, lentsE b.ended, lentsN b.names, .int .i64 b.verdict, .int .i64 b.spent, .int .i64 b.clock]).setBox r1 (L.map AV.str)).setBox r2 (L.map AV.str) := ⟨_, rfl⟩
  have q1' : σ2.box r1 = some (L.map AV.str) := by rw [hσ2]; simp -dsimp only [↓bp, bq, br, seval, tbLawTaleTells, *]
  have q2 : σ2.box r2 = some (L.map AV.str) := by rw [hσ2]; simp -dsimp only [↓bp, bq, br, seval, tbLawTaleTells, *]
  have e1 : σ2.box b1 = some [encs a.out, encE a.ended, encN a.names, .int .i64 a.verdict, .int .i64 a.spent, .int .i64 a.clock] := by rw [hσ2]; simp -dsimp only [↓bp, bq, br, seval, tbLawTaleTells, *]
  have e2 : σ2.box b2 = some [encs b.out, encE b.ended, encN b.names, .int .i64 b.verdict, .int .i64 b.spent, .int .i64 b.clock] := by rw [hσ2]; simp -dsimp only [↓bp, bq, br, seval, tbLawTaleTells, *]
  have e3 : σ2.box b3 = some [lents a.out, lentsE a.ended, lentsN a.names, .int .i64 a.verdict, .int .i64 a.spent, .int .i64 a.clock] := by rw [hσ2]; simp -dsimp only [↓bp, bq, br, seval, tbLawTaleTells, *]
  have e4 : σ2.box bx = some [lents b.out, lentsE b.ended, lentsN b.names, .int .i64 b.verdict, .int .i64 b.spent, .int .i64 b.clock] := by rw [hσ2]; simp -dsimp only [↓bp, bq, br, seval, tbLawTaleTells, *]
  have hl0 : σ.le σ2 := by
    rw [hσ2]
    repeat' first | exact AS.le.refl _ | (refine AS.le.setBox ?_ (by first | exact z1 | exact z2 | (simp only [*]; done) | (have := h1.1; assumption) | (have := h2.1.1; assumption) | (have := h3.1.1.1; assumption) | (have := hbx.1.1.1.1; assumption)) _)
  rw [← hσ2]
  clear hσ2 tt hf1 hf2
  have hx := tx.lend (σ := σ2) rfl (.cons (row_lend q1') (.cons (Lend.id _) .nil))
  have hA := apartTexts_tri G [some (r1, L.length), some (r2, L.length)] .full (two_rows hne) (by simp) (fun k r hr => by
    match k, hr with
    | 0, hr => simp at hr; subst hr; exact hl
    | 1, hr => simp at hr; subst hr; exact hl
    | k + 2, hr => simp at hr) σ2 (fun j b n hj => by
    match j, hj with
    | 0, hj => simp at hj; obtain ⟨rfl, rfl⟩ := hj; exact ⟨_, q1', by rw [List.length_map]; omega⟩
    | 1, hj => simp at hj; obtain ⟨rfl, rfl⟩ := hj; exact ⟨_, q2, by rw [List.length_map]; omega⟩
    | j + 2, hj => simp at hj)
  have hfin : ∀ s4, LeX (InS [some (r1, L.length), some (r2, L.length)]) σ2 s4 → σ.le s4 := fun s4 hX => ⟨fun b cs hb => hX.box b cs (fun ⟨n, hn⟩ => by
    simp only [List.mem_cons, Option.some.injEq, Prod.mk.injEq, List.not_mem_nil, or_false] at hn
    rcases hn with ⟨rfl, _⟩ | ⟨rfl, _⟩
    · rw [z1] at hb; cases hb
    · rw [z2] at hb; cases hb) (hl0.box b cs hb), fun b x hb => hX.tip b x (hl0.tip b x hb), fun b x hb => hX.ty b x (hl0.ty b x hb)⟩
  clear hl0 z1 z2 q1' q2 tx
  repeat' (first | refine xs ?_ ?_ <;> intros | ((first | refine xh ?_ | refine xi ?_); intro bx hbx; (try simp only [fb] at hbx)) | refine Pure.use (rs) ?_ | refine Pure.head (rs) ?_ | refine Pure.use (rw_) ?_ | refine Pure.head (rw_) ?_ | refine Pure.use (rt) ?_ | refine Pure.head (rt) ?_ | refine Pure.use (ka) ?_ | refine Pure.head (ka) ?_ | refine Pure.use (kb) ?_ | refine Pure.head (kb) ?_ | ((refine Tri.mono hx ?_; rintro r s3 ⟨rfl, rfl⟩)) | ((refine Tri.mono hA ?_; rintro r s4 ⟨rfl, hX⟩)) | refine Pure.use (w) ?_ | refine Pure.head (w) ?_ | refine xj ?_ | ((with_reducible refine And.intro ?_ ?_); omega) | refine bo_buildSlice (d' := ⟨⟩) ?_ | refine xk (by kernel_rfl) ?_ | refine xf ?_ (by repeat' first | exact lr _ | assumption | refine ls ?_ ?_ | refine lt ?_ ?_ | simp only [*]; done | exact lf ‹_› (by simp only [*])) | simp -dsimp only [↓bp, bq, br, seval, tbLawTaleTells, *])
  all_goals exact finishW_some _ (AS.le.refl _) ⟨rfl, hfin _ hX⟩
theorem taleTells_pure (hg : GlobT G) (a b : Seen) (ha : a.bulk ≤ 2000000) (hb : b.bulk ≤ 2000000) (ra : a.Rng) (rb : b.Rng) : Pure Tryz.prog G 3 [a.enc, b.enc] (.bool true) := by
  have w := awake_pure hg
  have ga := greatS_pure G a ha
  have gb := greatS_pure G b hb
  by_cases hgo : greatS a = true ∨ greatS a = false ∧ greatS b = true
  · exact tells_great hgo w ga gb
  · have e : greatS a = false ∧ greatS b = false := by
      cases h1 : greatS a <;> cases h2 : greatS b <;> simp_all
    rw [e.1] at ga
    rw [e.2] at gb
    have hn : (tlines a).length ≤ 1000000000 := by
      have n1 := len_le_bulks a.out
      have n2 := lenE_le a.ended
      have n3 := lenN_le a.names
      rw [tlines_len]; unfold Seen.bulk at ha; omega
    have hx := sameX_pure G (tlines a) (tlines a) hn hn
    rw [decide_eq_true rfl] at hx
    refine tells_go (S := sameS a b) (W := within a b) (L := tlines a) {
      w := w, ga := ga, gb := gb
      la := lentS_pure G a (by omega)
      lb := lentS_pure G b (by omega)
      s := (sameS_pure G a b (by omega) (by omega)).lessArgs (.cons a.lent_le (.cons b.lent_le .nil))
      wi := (within_pure G a b (by omega) (by omega)).lessArgs (.cons a.lent_le (.cons b.lent_le .nil))
      rs := rsame_pure G a b (by omega) (by omega)
      rw_ := rwithin_pure G a b (by omega) (by omega)
      rt := rTaleText_pure G a ha ra
      tx := hx
      ka := keptS_pure G a (by omega)
      kb := keptS_pure G b (by omega)
      tt := fun σ => (taleText_tri hg a ha ra σ).weaken (.cons a.lent_le .nil)
      hl := hn }
end Go.Proofs.YtphnoaihojccbaaGreatDoor
namespace Go.Av
open Go Go.RowKit
mutual
def noTab : AV → Bool
  | .undef => true
  | .bool _ => true
  | .int _ _ => true
  | .str _ => true
  | .nil => true
  | .sl _ xs sp => noTabs xs && noTabs sp
  | .agg cs => noTabs cs
  | .tup cs => noTabs cs
  | .ptr _ _ => true
  | .rp cs => noTabs cs
  | .nilptr => true
  | .fn _ cs => noTabs cs
  | .nilfn => true
  | .bs _ _ _ _ => true
  | .bp _ _ _ => true
  | .raw _ => true
  | .tab _ => false
def noTabs : List AV → Bool
  | [] => true
  | a :: l => noTab a && noTabs l
end
theorem noTabs_all : ∀ (l : List AV), noTabs l = true ↔ ∀ a, a ∈ l → noTab a = true
  | [] => by simp [noTabs]
  | a :: l => by simp [noTabs, noTabs_all l]
theorem noTab_flat {a : AV} (h : noTab a = true) : ∀ c, c ∈ flat a → noTab c = true := by
  cases a with
  | agg cs => intro c hc; exact (noTabs_all cs).1 (by simpa [noTab] using h) c hc
  | _ => intro c hc; simp [flat] at hc; subst hc; exact h
theorem noTab_cells {l : List AV} (h : ∀ a, a ∈ l → noTab a = true) : ∀ c, c ∈ l.flatMap flat → noTab c = true := fun c hc => by
  obtain ⟨a, ha, hca⟩ := List.mem_flatMap.1 hc
  exact noTab_flat (h a ha) c hca
theorem VR.mono3 {K K' : Ctx} (hi : ∀ b o v, K.imm b o = some v → K'.imm b o = some v) (hr : ∀ b x, K.row b = some x → K'.row b = some x) {a : AV} {v : Value} (k : VR K a v) : noTab a = true → VR K' a v := by
  induction k with
  | undef v => intro _; exact .undef v
  | bool b => intro _; exact .bool b
  | int k n => intro _; exact .int k n
  | str s => intro _; exact .str s
  | nil => intro _; exact .nil
  | sl g xs sp sz b off cap f hsz hcap hml himm hv hg ih =>
    intro hn
    have hn' : ∀ a, a ∈ xs ++ sp → noTab a = true := by
      simp only [noTab, Bool.and_eq_true, noTabs_all] at hn
      intro a ha
      rcases List.mem_append.1 ha with h | h
      · exact hn.1 a h
      · exact hn.2 a h
    refine .sl g xs sp sz b off cap f hsz hcap hml (fun j hj => hi _ _ _ (himm j hj)) (fun j hj => ih j hj (noTab_cells hn' _ (List.getElem_mem hj))) ?_
    cases g with
    | none => exact hg
    | full => exact hg
    | own b' => obtain ⟨h1, h2, E, s, h3⟩ := hg; exact ⟨h1, h2, E, s, hr _ _ h3⟩
  | sl0 a => intro _; exact .sl0 a
  | agg cs vs hl h1 hv ih => intro hn; exact .agg cs vs hl h1 fun j hj => ih j hj ((noTabs_all cs).1 (by simpa [noTab] using hn) _ (List.getElem_mem hj))
  | tup cs vs hl hv ih => intro hn; exact .tup cs vs hl fun j hj => ih j hj ((noTabs_all cs).1 (by simpa [noTab] using hn) _ (List.getElem_mem hj))
  | ptr b o => intro _; exact .ptr b o
  | rp cs b off f h1 himm hv ih => intro hn; exact .rp cs b off f h1 (fun j hj => hi _ _ _ (himm j hj)) fun j hj => ih j hj ((noTabs_all cs).1 (by simpa [noTab] using hn) _ (List.getElem_mem hj))
  | nilptr => intro _; exact .nilptr
  | fn f caps vs hl hv ih => intro hn; exact .fn f caps vs hl fun j hj => ih j hj ((noTabs_all caps).1 (by simpa [noTab] using hn) _ (List.getElem_mem hj))
  | nilfn => intro _; exact .nilfn
  | bs b n s cap E hr' hn hm => intro _; exact .bs b n s cap E (hr _ _ hr') hn hm
  | bp b s cap E hr' => intro _; exact .bp b s cap E (hr _ _ hr')
  | raw v => intro _; exact .raw v
  | tab vs b E fz hb hw => intro hn; cases hn
def AS.minus (σ' σ : AS) : AS := { box := fun b => if (σ.box b).isNone && (σ.tip b).isNone then σ'.box b else none, tip := fun _ => none, ty := fun _ => none }
theorem AS.minus_le (σ' σ : AS) : (σ'.minus σ).le σ' := by
  refine ⟨fun b cs h => ?_, fun _ _ h => (by cases h), fun _ _ h => (by cases h)⟩
  have h' : (if (σ.box b).isNone && (σ.tip b).isNone then σ'.box b else none) = some cs := h
  split at h'
  · exact h'
  · cases h'
theorem AS.minus_box {σ' σ : AS} {b : Nat} {cs : List AV} (h : σ'.box b = some cs) (h0 : σ.box b = none) (h1 : σ.tip b = none) : (σ'.minus σ).box b = some cs := by
  show (if (σ.box b).isNone && (σ.tip b).isNone then σ'.box b else none) = some cs
  rw [h0, h1]; exact h
def Ctx.kept (K : Ctx) (σ : AS) (w : World) : Ctx := { K with imm := (K.lent σ w).imm }
theorem Rel.settle {G : Nat → AV} {K : Ctx} {σ σ' : AS} {w : World} (h : Rel G K σ' w) (hl : σ.le σ') : Rel G (K.kept (σ'.minus σ) w) σ w := by
  have h1 := h.weaken (AS.minus_le σ' σ)
  have hi := lent_imm h1
  have hk : K.le (K.kept (σ'.minus σ) w) := ⟨hi, fun _ _ h => h, rfl, rfl⟩
  have h2 := h1.lent
  have hno : ∀ b, (σ'.minus σ).box b = none → ∀ o, (K.kept (σ'.minus σ) w).imm b o = K.imm b o := fun b hb o => by
    unfold Ctx.kept Ctx.lent
    simp only [hb]
  have hnb : ∀ b, (σ.box b).isNone = false ∨ (σ.tip b).isNone = false → (σ'.minus σ).box b = none := fun b hb => by
    show (if (σ.box b).isNone && (σ.tip b).isNone then σ'.box b else none) = none
    rcases hb with hb | hb <;> rw [hb] <;> simp
  refine ⟨h2.imm, fun b cap s E hr => ?_, fun b cs hb => ?_, fun b n s ht => ?_, fun b E n ht => h.ty b E n (hl.ty _ _ ht), fun g => (h.glob g).mono hk, h.below, h.bs⟩
  · obtain ⟨cur, fz, q1, q2, q3, q4⟩ := h.row b cap s E hr
    exact ⟨cur, fz, q1, q2, q3, fun ⟨x, hx⟩ => q4 ⟨x, hl.tip _ _ hx⟩⟩
  · obtain ⟨q1, q2, q3, q4, q5, c, E, q6, q7, q8⟩ := h.box b cs (hl.box _ _ hb)
    refine ⟨q1, ?_, q3, fun o => by rw [hno b (hnb b (.inl (by rw [hb]; rfl)))]; exact q4 o, q5, c, E, q6, q7, fun j hj => (q8 j hj).mono hk⟩
    cases e : σ.tip b with
    | none => rfl
    | some x => rw [hl.tip _ _ e] at q2; cases q2
  · obtain ⟨q1, cap, E, q2, q3, q4⟩ := h.tip b n s (hl.tip _ _ ht)
    exact ⟨q1, cap, E, q2, q3, fun o ho => by rw [hno b (hnb b (.inr (by rw [ht]; rfl)))]; exact q4 o ho⟩
theorem Tri.settle {P : Program} {G : Nat → AV} {f : FuncId} {args : List AV} {σ : AS} {v : AV} (hv : noTab v = true) (h : Tri P G f args σ fun r σ' => σ.le σ' ∧ Lend G (σ'.minus σ) r v) : Tri P G f args σ fun r σ' => r = v ∧ σ' = σ :=
  ⟨h.1, fun K w vals hr hvl => (h.2 K w vals hr hvl).mono fun e w' ⟨u, r, σ', K', he, ⟨hl, hL⟩, h1, h2, h3⟩ => by
    have q1 := h2.weaken (AS.minus_le σ' σ)
    have q2 := hL K' w' u q1 h1
    exact ⟨u, v, σ, K'.kept (σ'.minus σ) w', he, ⟨rfl, rfl⟩, VR.mono3 (K := K'.lent (σ'.minus σ) w') (K' := K'.kept (σ'.minus σ) w') (fun _ _ _ h => h) (fun _ _ h => h) q2 hv, h2.settle hl, h3.trans ⟨lent_imm q1, fun _ _ h => h, rfl, rfl⟩⟩⟩
end Go.Av
set_option maxRecDepth 20000
namespace Go.Proofs.YtphnoaihojccbaaGreatDoor
open Go Go.Av
def tbTaleN := And.intro (And.intro (And.intro (And.intro (And.intro @tf3 @tf4) (And.intro @tf5 (And.intro @tf85 @tf9))) (And.intro (And.intro @tf31 (And.intro @tf40 @tf39)) (And.intro @tf22 (And.intro @tf42 @tf23)))) (And.intro (And.intro (And.intro @tf44 @tf24) (And.intro @tf46 (And.intro @tf26 @Term.flat_enc))) (And.intro (And.intro @Term.isv_enc (And.intro @Term.fold_enc @isv_encs)) (And.intro @flat_encs (And.intro @len_encs @ix_encs))))) (And.intro (And.intro (And.intro (And.intro @isv_lims @flat_lims) (And.intro @len_lims (And.intro @ix_lims @flat_limA))) (And.intro (And.intro @Ended.flat_enc (And.intro @Ended.isv_enc @Ended.fold_enc)) (And.intro @Named.flat_enc (And.intro @Named.isv_enc @Named.fold_enc)))) (And.intro (And.intro (And.intro @Seen.flat_enc @Seen.isv_enc) (And.intro @Seen.fold_enc (And.intro @isv_encE @flat_encE))) (And.intro (And.intro @len_encE (And.intro @ix_encE @isv_encN)) (And.intro @flat_encN (And.intro @len_encN @ix_encN)))))
variable (G : Nat → AV)
theorem kcopyTW (l : List Term) (hl : l.length ≤ 1000000000) (hf : ∀ x, x ∈ l → Pure Tryz.prog G 131 [x.enc] x.enc) (σ : AS) : Tri Tryz.prog G 89 [encs l] σ fun r σ' => WBuf 7 42 σ σ' r (l.map Term.enc) := by
  refine Tri.of_awp mixed Tryz.func89 rfl (by kernel_rfl) (by kernel_rfl) (by simp [Tryz.ntmps89]) Tryz.results89 ?_
  simp -dsimp only [↓bp, bq, br, seval, tbTaleN]
  refine loop_intro (fun n e σ' => ∃ (i : Nat) (v : AV), i ≤ l.length ∧ n = l.length - i ∧ e 4 = .int .i64 i ∧ e 3 = v ∧ WBuf 7 42 σ σ' v ((l.take i).map Term.enc)) l.length
    ⟨0, .nil, by omega, by omega, by simp -dsimp only [↓bp, bq, br, seval, tbTaleN]; first | done | rfl, by simp -dsimp only [↓bp, bq, br, seval, tbTaleN]; first | done | rfl, .nil (AS.le.refl σ)⟩ ?_
  rintro n e σ2 ⟨i, v, hi, rfl, h4, h3, hB⟩
  simp -dsimp only [↓bp, bq, br, seval, tbTaleN] at h4 h3
  obtain ⟨o1, o2, o3⟩ := wbuf_one hB
  by_cases hlt : (i : Int) < l.length
  · obtain ⟨k, hk⟩ : ∃ k, l[i]? = some k := ⟨_, List.getElem?_eq_getElem (by omega)⟩
    have hp := hf k (List.mem_of_getElem? hk)
    have hlen : (l.take i).length = i := by rw [List.length_take]; omega
    have hlt' := eq_true hlt
    have hw : IntKind.i64.wrap ((i : Int) + 1) = ((i + 1 : Nat) : Int) := by rw [wrap_nat (by omega) (by omega)]; rfl
    clear hf
    repeat' (first | refine xs ?_ ?_ <;> intros | ((first | refine xh ?_ | refine xi ?_); intro bx hbx; (try simp only [fb] at hbx)) | refine Pure.use (hp) ?_ | refine Pure.head (hp) ?_ | (refine build_one tfN (Term.isv_enc k) (by rw [k.flat_enc]; rfl) (by omega) ?_) | ((refine app_wb (ys := [k.enc]) (hB.newBox (by first | assumption | (simp only [*]; done)) _).1 tfN (asrc_sl tfE) (fun a ha => by simp at ha; subst ha; exact ⟨by rw [k.flat_enc]; rfl, k.isv_enc⟩) (by simp only [List.length_map, List.length_cons, List.length_nil]; omega) (fun v3 σ3 hA => ?_))) | refine xj ?_ | ((with_reducible refine And.intro ?_ ?_); omega) | refine bo_buildSlice (d' := ⟨⟩) ?_ | refine xk (by kernel_rfl) ?_ | refine xf ?_ (by repeat' first | exact lr _ | assumption | refine ls ?_ ?_ | refine lt ?_ ?_ | simp only [*]; done | exact lf ‹_› (by simp only [*])) | simp -dsimp only [↓bp, bq, br, seval, tbTaleN, *])
    all_goals exact ⟨l.length - (i + 1), by omega, i + 1, v3, by omega, rfl, rfl, rfl, by rw [take_succ_get _ _ _ hk, List.map_append]; exact hA.buf⟩
  · have : i = l.length := by omega
    subst this
    rw [List.take_length] at hB
    have hlt' := eq_false hlt
    clear hf
    repeat' (first | refine xs ?_ ?_ <;> intros | ((first | refine xh ?_ | refine xi ?_); intro bx hbx; (try simp only [fb] at hbx)) | refine xj ?_ | ((with_reducible refine And.intro ?_ ?_); omega) | refine bo_buildSlice (d' := ⟨⟩) ?_ | refine xk (by kernel_rfl) ?_ | refine xf ?_ (by repeat' first | exact lr _ | assumption | refine ls ?_ ?_ | refine lt ?_ ?_ | simp only [*]; done | exact lf ‹_› (by simp only [*])) | simp -dsimp only [↓bp, bq, br, seval, tbTaleN, *])
    all_goals exact finishW_some _ (AS.le.refl _) hB
theorem kcopyEW (l : List Ended) (hl : l.length ≤ 1000000000) (hf : ∀ x, x ∈ l → Pure Tryz.prog G 132 [x.enc] x.enc) (σ : AS) : Tri Tryz.prog G 90 [encE l] σ fun r σ' => WBuf 8 44 σ σ' r (l.map Ended.enc) := by
  refine Tri.of_awp mixed Tryz.func90 rfl (by kernel_rfl) (by kernel_rfl) (by simp [Tryz.ntmps90]) Tryz.results90 ?_
  simp -dsimp only [↓bp, bq, br, seval, tbTaleN]
  refine loop_intro (fun n e σ' => ∃ (i : Nat) (v : AV), i ≤ l.length ∧ n = l.length - i ∧ e 4 = .int .i64 i ∧ e 3 = v ∧ WBuf 8 44 σ σ' v ((l.take i).map Ended.enc)) l.length
    ⟨0, .nil, by omega, by omega, by simp -dsimp only [↓bp, bq, br, seval, tbTaleN]; first | done | rfl, by simp -dsimp only [↓bp, bq, br, seval, tbTaleN]; first | done | rfl, .nil (AS.le.refl σ)⟩ ?_
  rintro n e σ2 ⟨i, v, hi, rfl, h4, h3, hB⟩
  simp -dsimp only [↓bp, bq, br, seval, tbTaleN] at h4 h3
  obtain ⟨o1, o2, o3⟩ := wbuf_one hB
  by_cases hlt : (i : Int) < l.length
  · obtain ⟨k, hk⟩ : ∃ k, l[i]? = some k := ⟨_, List.getElem?_eq_getElem (by omega)⟩
    have hp := hf k (List.mem_of_getElem? hk)
    have hlen : (l.take i).length = i := by rw [List.length_take]; omega
    have hlt' := eq_true hlt
    have hw : IntKind.i64.wrap ((i : Int) + 1) = ((i + 1 : Nat) : Int) := by rw [wrap_nat (by omega) (by omega)]; rfl
    clear hf
    repeat' (first | refine xs ?_ ?_ <;> intros | ((first | refine xh ?_ | refine xi ?_); intro bx hbx; (try simp only [fb] at hbx)) | refine Pure.use (hp) ?_ | refine Pure.head (hp) ?_ | (refine build_one tfEN (Ended.isv_enc k) (by rw [k.flat_enc]; rfl) (by omega) ?_) | ((refine app_wb (ys := [k.enc]) (hB.newBox (by first | assumption | (simp only [*]; done)) _).1 tfEN (asrc_sl tfEE) (fun a ha => by simp at ha; subst ha; exact ⟨by rw [k.flat_enc]; rfl, k.isv_enc⟩) (by simp only [List.length_map, List.length_cons, List.length_nil]; omega) (fun v3 σ3 hA => ?_))) | refine xj ?_ | ((with_reducible refine And.intro ?_ ?_); omega) | refine bo_buildSlice (d' := ⟨⟩) ?_ | refine xk (by kernel_rfl) ?_ | refine xf ?_ (by repeat' first | exact lr _ | assumption | refine ls ?_ ?_ | refine lt ?_ ?_ | simp only [*]; done | exact lf ‹_› (by simp only [*])) | simp -dsimp only [↓bp, bq, br, seval, tbTaleN, *])
    all_goals exact ⟨l.length - (i + 1), by omega, i + 1, v3, by omega, rfl, rfl, rfl, by rw [take_succ_get _ _ _ hk, List.map_append]; exact hA.buf⟩
  · have : i = l.length := by omega
    subst this
    rw [List.take_length] at hB
    have hlt' := eq_false hlt
    clear hf
    repeat' (first | refine xs ?_ ?_ <;> intros | ((first | refine xh ?_ | refine xi ?_); intro bx hbx; (try simp only [fb] at hbx)) | refine xj ?_ | ((with_reducible refine And.intro ?_ ?_); omega) | refine bo_buildSlice (d' := ⟨⟩) ?_ | refine xk (by kernel_rfl) ?_ | refine xf ?_ (by repeat' first | exact lr _ | assumption | refine ls ?_ ?_ | refine lt ?_ ?_ | simp only [*]; done | exact lf ‹_› (by simp only [*])) | simp -dsimp only [↓bp, bq, br, seval, tbTaleN, *])
    all_goals exact finishW_some _ (AS.le.refl _) hB
theorem kcopyNW (l : List Named) (hl : l.length ≤ 1000000000) (σ : AS) : Tri Tryz.prog G 91 [encN l] σ fun r σ' => WBuf 2 46 σ σ' r (l.map Named.enc) := by
  refine Tri.of_awp mixed Tryz.func91 rfl (by kernel_rfl) (by kernel_rfl) (by simp [Tryz.ntmps91]) Tryz.results91 ?_
  repeat' (first | refine xs ?_ ?_ <;> intros | ((first | refine xh ?_ | refine xi ?_); intro bx hbx; (try simp only [fb] at hbx)) | ((refine app_wb (ys := l.map Named.enc) (WBuf.nil (AS.le.refl σ)) tfNN (asrc_sl tfNE) (fun a ha => by obtain ⟨x, _, rfl⟩ := List.mem_map.1 ha; exact ⟨by rw [x.flat_enc]; rfl, x.isv_enc⟩) (by simp only [List.length_map, List.length_nil]; omega) (fun v3 σ3 hA => ?_))) | refine xj ?_ | ((with_reducible refine And.intro ?_ ?_); omega) | refine bo_buildSlice (d' := ⟨⟩) ?_ | refine xk (by kernel_rfl) ?_ | refine xf ?_ (by repeat' first | exact lr _ | assumption | refine ls ?_ ?_ | refine lt ?_ ?_ | simp only [*]; done | exact lf ‹_› (by simp only [*])) | simp -dsimp only [↓bp, bq, br, seval, tbTaleN, *])
  all_goals exact finishW_some _ (AS.le.refl _) (by simpa [afin] using hA.buf)
theorem ne_of {σ : AS} {b c : Nat} {z : List AV} (h : σ.box b = some z) (h0 : σ.box c = none) : b ≠ c ∧ c ≠ b := by
  have : b ≠ c := fun e => by subst e; rw [h] at h0; cases h0
  exact ⟨this, this.symm⟩
theorem set_other {σ : AS} {b c : Nat} {x z : List AV} (h : σ.box c = some z) (hne : c ≠ b) : (σ.setBox b x).box c = some z := by simp only [AS.setBox, if_neg hne]; exact h
theorem set_none {σ : AS} {b c : Nat} {x : List AV} (h : (σ.setBox b x).box c = none) : c ≠ b ∧ σ.box c = none := by
  have h' : (if c = b then some x else σ.box c) = none := h
  by_cases e : c = b
  · rw [if_pos e] at h'; cases h'
  · rw [if_neg e] at h'; exact ⟨e, h'⟩
structure CopyS (s : Seen) (σ : AS) (r : AV) (σ' : AS) : Prop where
  ex : ∃ r1 r2 r3, r = .agg [.bs r1 s.out.length 7 42, .bs r2 s.ended.length 8 44, .bs r3 s.names.length 2 46, .int .i64 s.verdict, .int .i64 s.spent, .int .i64 s.clock] ∧
    σ'.box r1 = some ((s.out.map Term.enc).flatMap flat) ∧ σ'.box r2 = some ((s.ended.map Ended.enc).flatMap flat) ∧ σ'.box r3 = some ((s.names.map Named.enc).flatMap flat) ∧
    (σ.box r1 = none ∧ σ.tip r1 = none) ∧ (σ.box r2 = none ∧ σ.tip r2 = none) ∧ (σ.box r3 = none ∧ σ.tip r3 = none) ∧ r1 ≠ r2 ∧ r1 ≠ r3 ∧ r2 ≠ r3
  le : σ.le σ'
set_option maxHeartbeats 1000000 in
theorem kcopySW (s : Seen) (hb : s.bulk ≤ 100000000) (h1 : s.out ≠ []) (h2 : s.ended ≠ []) (h3 : s.names ≠ []) (σ : AS) : Tri Tryz.prog G 43 [s.enc] σ fun r σ' => CopyS s σ r σ' := by
  unfold Seen.bulk at hb
  have c1 := fun S => kcopyTW G s.out (by have := len_le_bulks s.out; omega) (fun x hx => kcopy_pure G x (by have := bulk_mem hx; omega)) S
  have c2 := fun S => kcopyEW G s.ended (by have := lenE_le s.ended; omega) (fun x hx => kcopyE1_pure G x (by have := bulkE_mem hx; omega)) S
  have c3 := fun S => kcopyNW G s.names (by have := lenN_le s.names; omega) S
  clear hb
  refine Tri.of_awp mixed Tryz.func43 rfl (by kernel_rfl) (by kernel_rfl) (by simp [Tryz.ntmps43]) Tryz.results43 ?_
  simp -dsimp only [↓bp, bq, br, seval, tbTaleN]
  refine newW_intro fun b1 hb1 => ?_
  simp -dsimp only [↓bp, bq, br, seval, tbTaleN]
  refine newT_plain fun b2 hb2 => ?_
  simp only [fb] at hb2
  obtain ⟨hb2, hn1, hn2⟩ := hb2
  obtain ⟨S, hS⟩ : ∃ S, S = (σ.setBox b1 [encs s.out, encE s.ended, encN s.names, .int .i64 s.verdict, .int .i64 s.spent, .int .i64 s.clock]).setBox b2 [.nil, .nil, .nil, .int .i64 0, .int .i64 0, .int .i64 0] := ⟨_, rfl⟩
  have l0 : σ.le S := by rw [hS]; exact ((AS.le.refl σ).setBox hb1.1 _).setBox hb2.1 _
  have e1 : S.box b1 = some [encs s.out, encE s.ended, encN s.names, .int .i64 s.verdict, .int .i64 s.spent, .int .i64 s.clock] := by rw [hS]; simp [AS.setBox, hn1, hn2]
  have e2 : S.box b2 = some [.nil, .nil, .nil, .int .i64 0, .int .i64 0, .int .i64 0] := by rw [hS]; simp [AS.setBox]
  rw [← hS]
  clear hS
  repeat' (first | refine xs ?_ ?_ <;> intros | ((first | refine xh ?_ | refine xi ?_); intro bx hbx; (try simp only [fb] at hbx)) | ((refine Tri.mono (c1 _) ?_; rintro r s1 hB; obtain ⟨r1, rfl, q1, z1, y1⟩ := hB.form (by simpa using h1); replace hB := hB.le)) | refine xj ?_ | ((with_reducible refine And.intro ?_ ?_); omega) | refine bo_buildSlice (d' := ⟨⟩) ?_ | refine xk (by kernel_rfl) ?_ | refine xf ?_ (by repeat' first | exact lr _ | assumption | refine ls ?_ ?_ | refine lt ?_ ?_ | simp only [*]; done | exact lf ‹_› (by simp only [*])) | simp -dsimp only [↓bp, bq, br, seval, tbTaleN, *])
  rw [List.length_map]
  have f1 := hB.box _ _ e1
  have f2 := hB.box _ _ e2
  obtain ⟨n1, n1'⟩ := ne_of e1 z1
  obtain ⟨m1, m1'⟩ := ne_of e2 z1
  repeat' (first | refine xs ?_ ?_ <;> intros | ((first | refine xh ?_ | refine xi ?_); intro bx hbx; (try simp only [fb] at hbx)) | ((refine Tri.mono (c2 _) ?_; rintro r s2 hB2; obtain ⟨r2, rfl, q2, z2, y2⟩ := hB2.form (by simpa using h2); replace hB2 := hB2.le)) | refine xj ?_ | ((with_reducible refine And.intro ?_ ?_); omega) | refine bo_buildSlice (d' := ⟨⟩) ?_ | refine xk (by kernel_rfl) ?_ | refine xf ?_ (by repeat' first | exact lr _ | assumption | refine ls ?_ ?_ | refine lt ?_ ?_ | simp only [*]; done | exact lf ‹_› (by simp only [*])) | simp -dsimp only [↓bp, bq, br, seval, tbTaleN, *])
  rw [List.length_map]
  obtain ⟨n2, z2⟩ := set_none z2
  obtain ⟨m2, m2'⟩ := ne_of f2 z2
  obtain ⟨p2, p2'⟩ := ne_of q1 z2
  have g1 := hB2.box b1 _ AS.set_get
  have g2 := hB2.box b2 _ (set_other f2 hn1)
  have q1' := hB2.box r1 _ (set_other q1 n1')
  clear q1
  have n2' := n2.symm
  repeat' (first | refine xs ?_ ?_ <;> intros | ((first | refine xh ?_ | refine xi ?_); intro bx hbx; (try simp only [fb] at hbx)) | ((refine Tri.mono (c3 _) ?_; rintro r s3 hB3; obtain ⟨r3, rfl, q3, z3, y3⟩ := hB3.form (by simpa using h3); replace hB3 := hB3.le)) | refine xj ?_ | ((with_reducible refine And.intro ?_ ?_); omega) | refine bo_buildSlice (d' := ⟨⟩) ?_ | refine xk (by kernel_rfl) ?_ | refine xf ?_ (by repeat' first | exact lr _ | assumption | refine ls ?_ ?_ | refine lt ?_ ?_ | simp only [*]; done | exact lf ‹_› (by simp only [*])) | simp -dsimp only [↓bp, bq, br, seval, tbTaleN, *])
  rw [List.length_map]
  obtain ⟨n3, z3⟩ := set_none z3
  obtain ⟨m3, m3'⟩ := ne_of g2 z3
  obtain ⟨p3, p3'⟩ := ne_of q1' z3
  obtain ⟨o3, o3'⟩ := ne_of q2 z3
  have k1 := hB3.box b1 _ AS.set_get
  have k2 := hB3.box b2 _ (set_other g2 hn1)
  have w1 := hB3.box r1 _ (set_other q1' n1')
  have w2 := hB3.box r2 _ (set_other q2 n2)
  have n3' := n3.symm
  clear q1' q2
  repeat' (first | refine xs ?_ ?_ <;> intros | ((first | refine xh ?_ | refine xi ?_); intro bx hbx; (try simp only [fb] at hbx)) | refine xj ?_ | ((with_reducible refine And.intro ?_ ?_); omega) | refine bo_buildSlice (d' := ⟨⟩) ?_ | refine xk (by kernel_rfl) ?_ | refine xf ?_ (by repeat' first | exact lr _ | assumption | refine ls ?_ ?_ | refine lt ?_ ?_ | simp only [*]; done | exact lf ‹_› (by simp only [*])) | simp -dsimp only [↓bp, bq, br, seval, tbTaleN, *])
  have t1 := (l0.trans hB).setBox hb1.1 [.bs r1 s.out.length 7 42, encE s.ended, encN s.names, .int .i64 s.verdict, .int .i64 s.spent, .int .i64 s.clock]
  have t2 := (t1.trans hB2).setBox hb1.1 [.bs r1 s.out.length 7 42, .bs r2 s.ended.length 8 44, encN s.names, .int .i64 s.verdict, .int .i64 s.spent, .int .i64 s.clock]
  refine finishW_some _ (AS.le.refl _) ⟨⟨r1, r2, r3, rfl, set_other (set_other w1 n1') m1', set_other (set_other w2 n2) m2', set_other (set_other q3 n3) m3', ⟨le_none l0 z1, le_noTip l0 y1⟩, ⟨le_none (l0.trans hB) z2, le_noTip (l0.trans hB) y2⟩, ⟨le_none (t1.trans hB2) z3, le_noTip (t1.trans hB2) y3⟩, p2, p3, o3⟩, ((t2.trans hB3).setBox hb1.1 _).setBox hb2.1 _⟩
end Go.Proofs.YtphnoaihojccbaaGreatDoor
set_option maxRecDepth 20000
namespace Go.Proofs.YtphnoaihojccbaaGreatDoor
open Go Go.Av
def tbTaleN2 := And.intro (And.intro (And.intro (And.intro (And.intro @tf3 @tf4) (And.intro @tf5 @tf85)) (And.intro (And.intro @tf9 @tf31) (And.intro @tf86 @tf40))) (And.intro (And.intro (And.intro @tf39 @tf22) (And.intro @tf42 @tf23)) (And.intro (And.intro @tf44 @tf24) (And.intro @tf46 @tf26)))) (And.intro (And.intro (And.intro (And.intro @Term.flat_enc @Term.isv_enc) (And.intro @isv_encs @flat_encs)) (And.intro (And.intro @isv_lims @flat_lims) (And.intro @Ended.flat_enc @Ended.isv_enc))) (And.intro (And.intro (And.intro @Named.flat_enc @Named.isv_enc) (And.intro @Seen.flat_enc @Seen.isv_enc)) (And.intro (And.intro @isv_encE @flat_encE) (And.intro @isv_encN @flat_encN))))
variable {G : Nat → AV}
def bentS (n : Nat) : Seen := match n with
  | 1 => { smallS with out := [aT, bT] }
  | 2 => { smallS with out := [] }
  | 3 => { smallS with out := [.mk 2 false [] [97] 1 [] []] }
  | 4 => { smallS with out := [.mk 7 false [] [] 0 [aT] [bT]] }
  | 5 => { smallS with ended := [⟨1, nT⟩, ⟨-5, .mk 1 true [7] [] 0 [] []⟩] }
  | 6 => { smallS with ended := [⟨2, nT⟩] }
  | 7 => { smallS with ended := [⟨1, .mk 2 true [] [110, 111, 114, 109, 97, 108] 0 [] []⟩] }
  | 8 => { smallS with names := [] }
  | 9 => { smallS with names := [⟨[97, 32, 98], 2⟩] }
  | 10 => { smallS with names := [⟨[115, 114, 118], 9223372036854775807⟩] }
  | 11 => { smallS with verdict := 1 }
  | 12 => { smallS with spent := -9223372036854775808 }
  | 13 => { smallS with clock := 1099511627776 }
  | 14 => { smallS with names := [⟨List.replicate 41 0, 2⟩] }
  | 15 => { smallS with out := [.mk 2 false [1] [97] 0 [] []] }
  | 16 => { smallS with out := [.mk 2 false [] [97] 0 [] [.mk 0 false [] [] 0 [] []]] }
  | 17 => { smallS with out := [.mk 2 false [2] [97] 0 [] []] }
  | _ => smallS
theorem lendRow {α : Type} {σ : AS} {r n : Nat} {E : TypeId} {cs : List AV} (enc : α → AV) (hn : 0 < n) (he : ∀ x, (flat (enc x)).length = n ∧ isv (enc x) = true ∧ ∀ c, c ∈ flat (enc x) → one c = true) (l : List α) (hb : σ.box r = some cs) (hl : Lends G σ cs ((l.map enc).flatMap flat)) : Lend G σ (.bs r l.length n E) (.sl .none (l.map enc) []) := by
  have hlen := hl.length
  have h := Lend.row (G := G) (σ := σ) (b := r) (s := n) (E := E) (cs := cs) (ds := (l.map enc).flatMap flat) hb (by rw [← hlen, List.take_length]; exact hl) (by omega) (xs := l.map enc) (sp := []) (by rw [List.append_nil]) hn (fun e h => by
    rw [List.append_nil] at h
    obtain ⟨x, _, rfl⟩ := List.mem_map.1 h
    exact he x)
  rw [List.length_map] at h
  exact h
theorem Ended.ones (t : Ended) : ∀ d, d ∈ flat t.enc → Av.one d = true := fun d hd => by rw [t.flat_enc] at hd; simp at hd; rcases hd with rfl | rfl | rfl | rfl | rfl | rfl | rfl | rfl <;> rfl
theorem Named.ones (t : Named) : ∀ d, d ∈ flat t.enc → Av.one d = true := fun d hd => by rw [t.flat_enc] at hd; simp at hd; rcases hd with rfl | rfl <;> rfl
theorem lendT {σ : AS} {r n : Nat} {cs : List AV} {l : List Term} (hn : n = l.length) (hb : σ.box r = some cs) (hl : Lends G σ cs ((l.map Term.enc).flatMap flat)) : Lend G σ (.bs r n 7 42) (encs l) := by
  subst hn; exact lendRow Term.enc (by omega) (fun x => ⟨by rw [x.flat_enc]; rfl, x.isv_enc, ones x⟩) l hb hl
theorem lendE {σ : AS} {r n : Nat} {cs : List AV} {l : List Ended} (hn : n = l.length) (hb : σ.box r = some cs) (hl : Lends G σ cs ((l.map Ended.enc).flatMap flat)) : Lend G σ (.bs r n 8 44) (encE l) := by
  subst hn; exact lendRow Ended.enc (by omega) (fun x => ⟨by rw [x.flat_enc]; rfl, x.isv_enc, x.ones⟩) l hb hl
theorem lendN {σ : AS} {r n : Nat} {cs : List AV} {l : List Named} (hn : n = l.length) (hb : σ.box r = some cs) (hl : Lends G σ cs ((l.map Named.enc).flatMap flat)) : Lend G σ (.bs r n 2 46) (encN l) := by
  subst hn; exact lendRow Named.enc (by omega) (fun x => ⟨by rw [x.flat_enc]; rfl, x.isv_enc, x.ones⟩) l hb hl
theorem noTab_map {α : Type} {enc : α → AV} (h : ∀ x, noTab (enc x) = true) (l : List α) : noTabs (l.map enc) = true := (noTabs_all _).2 fun a ha => by
  obtain ⟨x, _, rfl⟩ := List.mem_map.1 ha; exact h x
theorem noTab_lims (l : List UInt32) : noTab (lims l) = true := by
  simp only [lims, noTab, noTabs, Bool.and_true]
  exact noTab_map (fun x => by simp only [limA, noTab]) l
theorem noTab_term (t : Term) : noTab t.enc = true := by
  refine Term.ind (P := fun t => noTab t.enc = true) (fun t h1 h2 => ?_) t
  have k : ∀ l : List Term, (∀ x, x ∈ l → noTab x.enc = true) → noTab (encs l) = true := fun l h => by
    simp only [encs, noTab, noTabs, Bool.and_true]
    exact (noTabs_all _).2 fun a ha => by obtain ⟨x, hx, rfl⟩ := List.mem_map.1 ha; exact h x hx
  rw [← Term.fold_enc t]
  simp only [noTab, noTabs, noTab_lims, k _ h1, k _ h2, Bool.and_true]
theorem noTab_encs (l : List Term) : noTab (encs l) = true := by
  simp only [encs, noTab, noTabs, Bool.and_true]
  exact noTab_map noTab_term l
theorem noTab_seen (s : Seen) : noTab s.enc = true := by
  have e1 : ∀ l : List Ended, noTab (encE l) = true := fun l => by
    simp only [encE, noTab, noTabs, Bool.and_true]
    exact noTab_map (fun e => by simp only [Ended.enc, noTab, noTabs, noTab_lims, noTab_encs, Bool.and_true]) l
  have e2 : ∀ l : List Named, noTab (encN l) = true := fun l => by
    simp only [encN, noTab, noTabs, Bool.and_true]
    exact noTab_map (fun e => by simp only [Named.enc, noTab, noTabs, Bool.and_true]) l
  simp only [Seen.enc, noTab, noTabs, noTab_encs, e1, e2, Bool.and_true]
theorem tail0_le : Le (.sl .full [.agg [.int .u8 0, .bool false, .nil, .str [], .int .i64 0, .nil, .nil]] []) (encs [.mk 0 false [] [] 0 [] []]) := by
  refine Le.sl (.cons ?_ .nil)
  rw [← Term.fold_enc]
  exact LeE.agg (.cons (Le.refl _) (.cons (Le.refl _) (.cons Le.nil (.cons (Le.refl _) (.cons (Le.refl _) (.cons Le.nil (.cons Le.nil .nil))))))) (fun d hd => by simp at hd; rcases hd with rfl | rfl | rfl | rfl | rfl | rfl | rfl <;> rfl)
theorem bytes_zero (n : Nat) : bytesOf (List.replicate n (.int .u8 0)) = some (List.replicate n 0) := by
  induction n with
  | zero => rfl
  | succ n ih => rw [List.replicate_succ, List.replicate_succ]; simp only [bytesOf, ih]; rfl
set_option maxHeartbeats 4000000 in
theorem bent_all (n : Nat) (hn : n < 18) : Pure Tryz.prog G 17 [smallS.enc, .int .i64 (n : Int)] (bentS n).enc := fun σ => by
  refine Tri.settle (noTab_seen _) ?_
  have hc := fun S => kcopySW G smallS (by decide) (by decide) (by decide) (by decide) S
  have hA := atomK_pure (G := G) [97]
  have hB := atomK_pure (G := G) [98]
  refine Tri.of_awp mixed Tryz.func17 rfl (by kernel_rfl) (by kernel_rfl) (by simp [Tryz.ntmps17]) Tryz.results17 ?_
  simp -dsimp only [↓bp, bq, br, seval, tbTaleN2]
  refine newW_intro fun b1 hb1 => ?_
  simp -dsimp only [↓bp, bq, br, seval, tbTaleN2]
  refine newT_plain fun b2 hb2 => ?_
  simp only [fb] at hb2
  obtain ⟨hb2, hn1, hn2⟩ := hb2
  have e1 : ((σ.setBox b1 [encs smallS.out, encE smallS.ended, encN smallS.names, .int .i64 smallS.verdict, .int .i64 smallS.spent, .int .i64 smallS.clock]).setBox b2 [.nil, .nil, .nil, .int .i64 0, .int .i64 0, .int .i64 0]).box b1 = some [encs smallS.out, encE smallS.ended, encN smallS.names, .int .i64 smallS.verdict, .int .i64 smallS.spent, .int .i64 smallS.clock] := set_other AS.set_get hn2
  have e2 : ((σ.setBox b1 [encs smallS.out, encE smallS.ended, encN smallS.names, .int .i64 smallS.verdict, .int .i64 smallS.spent, .int .i64 smallS.clock]).setBox b2 [.nil, .nil, .nil, .int .i64 0, .int .i64 0, .int .i64 0]).box b2 = some [.nil, .nil, .nil, .int .i64 0, .int .i64 0, .int .i64 0] := AS.set_get
  have l0 : σ.le ((σ.setBox b1 [encs smallS.out, encE smallS.ended, encN smallS.names, .int .i64 smallS.verdict, .int .i64 smallS.spent, .int .i64 smallS.clock]).setBox b2 [.nil, .nil, .nil, .int .i64 0, .int .i64 0, .int .i64 0]) := ((AS.le.refl σ).setBox hb1.1 _).setBox hb2.1 _
  generalize (σ.setBox b1 [encs smallS.out, encE smallS.ended, encN smallS.names, .int .i64 smallS.verdict, .int .i64 smallS.spent, .int .i64 smallS.clock]).setBox b2 [.nil, .nil, .nil, .int .i64 0, .int .i64 0, .int .i64 0] = S at *
  repeat' (first | refine xs ?_ ?_ <;> intros | ((first | refine xh ?_ | refine xi ?_); intro bx hbx; (try simp only [fb] at hbx)) | ((refine Tri.mono (hc _) ?_; rintro r s1 ⟨⟨r1, r2, r3, rfl, q1, q2, q3, ⟨z1, y1⟩, ⟨z2, y2⟩, ⟨z3, y3⟩, p1, p2, p3⟩, l1⟩; clear hc)) | refine xj ?_ | ((with_reducible refine And.intro ?_ ?_); omega) | refine bo_buildSlice (d' := ⟨⟩) ?_ | refine xk (by kernel_rfl) ?_ | refine xf ?_ (by repeat' first | exact lr _ | assumption | refine ls ?_ ?_ | refine lt ?_ ?_ | simp only [*]; done | exact lf ‹_› (by simp only [*])) | simp -dsimp only [↓bp, bq, br, seval, tbTaleN2, *])
  replace q1 : s1.box r1 = some [.int .u8 2, .bool false, lims [], .str [97], .int .i64 0, encs [], encs []] := q1.trans (by show some (flat aT.enc ++ []) = _; rw [Term.flat_enc]; rfl)
  replace q2 : s1.box r2 = some [.int .i64 1, .int .u8 2, .bool false, lims [], .str [110, 111, 114, 109, 97, 108], .int .i64 0, encs [], encs []] := q2
  replace q3 : s1.box r3 = some [.str [115, 114, 118], .int .i64 2] := q3
  have f1 := l1.box _ _ e1
  have f2 := l1.box _ _ e2
  obtain ⟨a1, a1'⟩ := ne_of e1 z1
  obtain ⟨a2, a2'⟩ := ne_of e1 z2
  obtain ⟨a3, a3'⟩ := ne_of e1 z3
  obtain ⟨b1', b1''⟩ := ne_of e2 z1
  obtain ⟨b2', b2''⟩ := ne_of e2 z2
  obtain ⟨b3', b3''⟩ := ne_of e2 z3
  have p1' := p1.symm
  have p2' := p2.symm
  have p3' := p3.symm
  have x1 := le_none l0 z1
  have x2 := le_none l0 z2
  have x3 := le_none l0 z3
  have y1 := le_noTip l0 y1
  have y2 := le_noTip l0 y2
  have y3 := le_noTip l0 y3
  have l2 := l0.trans l1
  have hL1 : smallS.out.length = 1 := rfl
  have hL2 : smallS.ended.length = 1 := rfl
  have hL3 : smallS.names.length = 1 := rfl
  have hV1 : smallS.verdict = 2 := rfl
  have hV2 : smallS.spent = 9 := rfl
  have hV3 : smallS.clock = 0 := rfl
  clear e1 e2 z1 z2 z3 l0 l1
  have hW : WBuf 7 42 σ (s1.setBox b1 [.bs r1 1 7 42, .bs r2 1 8 44, .bs r3 1 2 46, .int .i64 2, .int .i64 9, .int .i64 0]) (.bs r1 [aT.enc].length 7 42) [aT.enc] :=
    .row r1 [aT.enc] (l2.setBox hb1.1 _) x1 y1 (set_other (q1.trans (by show _ = some (flat aT.enc ++ []); rw [Term.flat_enc]; rfl)) a1') (fun a ha => by simp at ha; subst ha; exact ⟨by rw [Term.flat_enc]; rfl, Term.isv_enc _⟩)
  have hW2 : WBuf 8 44 σ (s1.setBox b1 [.bs r1 1 7 42, .bs r2 1 8 44, .bs r3 1 2 46, .int .i64 2, .int .i64 9, .int .i64 0]) (.bs r2 [(Ended.mk 1 nT).enc].length 8 44) [(Ended.mk 1 nT).enc] :=
    .row r2 [(Ended.mk 1 nT).enc] (l2.setBox hb1.1 _) x2 y2 (set_other (q2.trans (by show _ = some (flat (Ended.mk 1 nT).enc ++ []); rw [Ended.flat_enc]; rfl)) a2') (fun a ha => by simp at ha; subst ha; exact ⟨by rw [Ended.flat_enc]; rfl, Ended.isv_enc _⟩)
  have hc : n = 0 ∨ n = 1 ∨ n = 2 ∨ n = 3 ∨ n = 4 ∨ n = 5 ∨ n = 6 ∨ n = 7 ∨ n = 8 ∨ n = 9 ∨ n = 10 ∨ n = 11 ∨ n = 12 ∨ n = 13 ∨ n = 14 ∨ n = 15 ∨ n = 16 ∨ n = 17 := by omega
  clear hn
  rcases hc with rfl | rfl | rfl | rfl | rfl | rfl | rfl | rfl | rfl | rfl | rfl | rfl | rfl | rfl | rfl | rfl | rfl | rfl
  all_goals
    repeat' (first | refine xs ?_ ?_ <;> intros | ((first | refine xh ?_ | refine xi ?_); intro bx hbx; (try simp only [fb] at hbx)) | refine Pure.use (hA) ?_ | refine Pure.head (hA) ?_ | refine Pure.use (hB) ?_ | refine Pure.head (hB) ?_ | ((refine app_wb (ys := [bT.enc]) hW tfN (asrc_sl tfE) (fun a ha => by simp at ha; subst ha; exact ⟨by rw [Term.flat_enc]; rfl, Term.isv_enc _⟩) (by simp) (fun v3 σ3 hA3 => ?_); obtain ⟨r4, rfl, w1, w2, w3⟩ := hA3.buf.form (by simp); obtain ⟨k1, k1'⟩ := hA3.keep b1 _ AS.set_get a1; obtain ⟨k2, k2'⟩ := hA3.keep b2 _ (set_other f2 hn1) b1'; obtain ⟨k3, k3'⟩ := hA3.keep r2 _ (set_other q2 a2') p1'; obtain ⟨k4, k4'⟩ := hA3.keep r3 _ (set_other q3 a3') p2'; have k5 := hA3.buf.le; have u1 : r4 ≠ b1 := Ne.symm k1'; have u2 : r4 ≠ b2 := Ne.symm k2'; clear hA3 hW)) | ((refine app_wb (ys := [.agg [.int .i64 (-5), .int .u8 1, .bool true, .sl .full [.int .u32 7] [], .str [], .int .i64 0, .nil, .nil]]) hW2 tfEN (asrc_sl tfEE) (fun a ha => by simp at ha; subst ha; exact ⟨rfl, rfl⟩) (by simp) (fun v3 σ3 hA3 => ?_); obtain ⟨r4, rfl, w1, w2, w3⟩ := hA3.buf.form (by simp); obtain ⟨k1, k1'⟩ := hA3.keep b1 _ AS.set_get a2; obtain ⟨k2, k2'⟩ := hA3.keep b2 _ (set_other f2 hn1) b2'; obtain ⟨k3, k3'⟩ := hA3.keep r1 _ (set_other q1 a1') p1; obtain ⟨k4, k4'⟩ := hA3.keep r3 _ (set_other q3 a3') p3'; have k5 := hA3.buf.le; have u1 : r4 ≠ b1 := Ne.symm k1'; have u2 : r4 ≠ b2 := Ne.symm k2'; clear hA3 hW2)) | ((refine draw_mk (l := [_, _, ⟨_, .makeSlice _ _ _, _, _, _, _⟩, _, _, _, _]) [] (fun _ => Mk.var []) 4 (by decide +kernel) rfl rfl ?_; intro hinf; refine m_read (v := .ptr b1 2) rfl (by simp only [rdv]; simp -dsimp only [↓bp, bq, br, seval, tbTaleN2, *]; done) ?_; refine m_read (v := .bs r3 1 2 46) rfl (by simp only [rdv]; simp -dsimp only [↓bp, bq, br, seval, tbTaleN2, *]; done) ?_; refine m_seq rfl rfl ?_)) | refine xj ?_ | ((with_reducible refine And.intro ?_ ?_); omega) | refine bo_buildSlice (d' := ⟨⟩) ?_ | refine xk (by kernel_rfl) ?_ | refine xf ?_ (by repeat' first | exact lr _ | assumption | refine ls ?_ ?_ | refine lt ?_ ?_ | simp only [*]; done | exact lf ‹_› (by simp only [*])) | simp -dsimp only [↓bp, bq, br, seval, tbTaleN2, *])
  rotate_left 14
  · refine make_row 41 tf86.2.2.2.2.2.2 (by simp -dsimp only [↓bp, bq, br, seval, tbTaleN2]; first | done | rfl) (by omega) (fun b3 hb3 => ?_)
    have hz : (List.replicate 41 [AV.int .u8 0]).flatten = List.replicate 41 (.int .u8 0) := by simp
    rw [hz]
    have hZl : (List.replicate 41 (AV.int .u8 0)).length = 41 := by simp
    have hZb := bytes_zero 41
    generalize List.replicate 41 (AV.int .u8 0) = Z at *
    generalize hN : List.replicate 41 (0 : UInt8) = N41 at *
    refine ⟨(AS.le.refl _).setBox hb3.1 _, hinf.setBox _ _, ?_⟩
    simp only [fb] at hb3
    obtain ⟨hb3, v1, v2⟩ := hb3
    obtain ⟨v3, v3'⟩ := ne_of q1 hb3.1
    obtain ⟨v4, v4'⟩ := ne_of q2 hb3.1
    obtain ⟨v5, v5'⟩ := ne_of q3 hb3.1
    obtain ⟨v6, v6'⟩ := ne_of f2 hb3.1
    have v9 := le_none l2 hb3.1
    refine m_seq rfl rfl ?_
    simp -dsimp only [↓bp, bq, br, seval, tbTaleN2, cvm_some, hZl, hZb]
    refine ⟨AS.le.refl _, ((hinf.setBox _ _)), ?_⟩
    rw [m_nil]
    repeat' (first | refine xs ?_ ?_ <;> intros | ((first | refine xh ?_ | refine xi ?_); intro bx hbx; (try simp only [fb] at hbx)) | refine Pure.use (hA) ?_ | refine Pure.head (hA) ?_ | refine Pure.use (hB) ?_ | refine Pure.head (hB) ?_ | refine xj ?_ | ((with_reducible refine And.intro ?_ ?_); omega) | refine bo_buildSlice (d' := ⟨⟩) ?_ | refine xk (by kernel_rfl) ?_ | refine xf ?_ (by repeat' first | exact lr _ | assumption | refine ls ?_ ?_ | refine lt ?_ ?_ | simp only [*]; done | exact lf ‹_› (by simp only [*])) | simp -dsimp only [↓bp, bq, br, seval, tbTaleN2, *])
    subst hN
    refine finishW_some _ (AS.le.refl _) ⟨?_, ?_⟩
    · repeat' first | assumption | (refine AS.le.setBox ?_ (by first | assumption | exact hb1.1 | exact hb2.1) _)
    · refine Lend.agg ?_ (fun c hc => by simp at hc; rcases hc with rfl | rfl | rfl | rfl | rfl | rfl <;> rfl)
      refine .cons ?_ (.cons ?_ (.cons ?_ (.cons (Lend.id _) (.cons (Lend.id _) (.cons (Lend.id _) .nil)))))
      · first
        | exact Lend.le (Lend.id _) Le.nil
        | (refine lendT (cs := ?_) rfl ?_ ?_; rotate_left
           · (refine AS.minus_box ?_ (by assumption) (by assumption); repeat' first | exact AS.set_get | assumption | refine set_other ?_ (by assumption))
           · (simp only [bentS, smallS, List.map_cons, List.map_nil, List.flatMap_cons, List.flatMap_nil, Term.flat_enc, List.append_nil, List.cons_append, List.nil_append]; repeat' (first | exact Lends.nil | refine Lends.cons ?_ ?_ | exact Lend.id _ | exact Lend.le (Lend.id _) Le.nil | exact Lend.le (Lend.id _) Le.gh | exact Lend.le (Lend.id _) tail0_le)))
      · first
        | exact Lend.le (Lend.id _) Le.nil
        | (refine lendE (cs := ?_) rfl ?_ ?_; rotate_left
           · (refine AS.minus_box ?_ (by assumption) (by assumption); repeat' first | exact AS.set_get | assumption | refine set_other ?_ (by assumption))
           · (simp only [bentS, smallS, List.map_cons, List.map_nil, List.flatMap_cons, List.flatMap_nil, Ended.flat_enc, List.append_nil, List.cons_append, List.nil_append]; repeat' (first | exact Lends.nil | refine Lends.cons ?_ ?_ | exact Lend.id _ | exact Lend.le (Lend.id _) Le.nil | exact Lend.le (Lend.id _) Le.gh | exact Lend.le (Lend.id _) tail0_le)))
      · first
        | exact Lend.le (Lend.id _) Le.nil
        | (refine lendN (cs := ?_) rfl ?_ ?_; rotate_left
           · (refine AS.minus_box ?_ (by assumption) (by assumption); repeat' first | exact AS.set_get | assumption | refine set_other ?_ (by assumption))
           · (simp only [bentS, smallS, List.map_cons, List.map_nil, List.flatMap_cons, List.flatMap_nil, Named.flat_enc, List.append_nil, List.cons_append, List.nil_append]; repeat' (first | exact Lends.nil | refine Lends.cons ?_ ?_ | exact Lend.id _ | exact Lend.le (Lend.id _) Le.nil | exact Lend.le (Lend.id _) Le.gh | exact Lend.le (Lend.id _) tail0_le)))
  all_goals
    refine finishW_some _ (AS.le.refl _) ⟨?_, ?_⟩
    · repeat' first | assumption | (refine AS.le.setBox ?_ (by first | assumption | exact hb1.1 | exact hb2.1) _)
    · refine Lend.agg ?_ (fun c hc => by simp at hc; rcases hc with rfl | rfl | rfl | rfl | rfl | rfl <;> rfl)
      refine .cons ?_ (.cons ?_ (.cons ?_ (.cons (Lend.id _) (.cons (Lend.id _) (.cons (Lend.id _) .nil)))))
      · first
        | exact Lend.le (Lend.id _) Le.nil
        | (refine lendT (cs := ?_) rfl ?_ ?_; rotate_left
           · (refine AS.minus_box ?_ (by assumption) (by assumption); repeat' first | exact AS.set_get | assumption | refine set_other ?_ (by assumption))
           · (simp only [bentS, smallS, List.map_cons, List.map_nil, List.flatMap_cons, List.flatMap_nil, Term.flat_enc, List.append_nil, List.cons_append, List.nil_append]; repeat' (first | exact Lends.nil | refine Lends.cons ?_ ?_ | exact Lend.id _ | exact Lend.le (Lend.id _) Le.nil | exact Lend.le (Lend.id _) Le.gh | exact Lend.le (Lend.id _) tail0_le)))
      · first
        | exact Lend.le (Lend.id _) Le.nil
        | (refine lendE (cs := ?_) rfl ?_ ?_; rotate_left
           · (refine AS.minus_box ?_ (by assumption) (by assumption); repeat' first | exact AS.set_get | assumption | refine set_other ?_ (by assumption))
           · (simp only [bentS, smallS, List.map_cons, List.map_nil, List.flatMap_cons, List.flatMap_nil, Ended.flat_enc, List.append_nil, List.cons_append, List.nil_append]; repeat' (first | exact Lends.nil | refine Lends.cons ?_ ?_ | exact Lend.id _ | exact Lend.le (Lend.id _) Le.nil | exact Lend.le (Lend.id _) Le.gh | exact Lend.le (Lend.id _) tail0_le)))
      · first
        | exact Lend.le (Lend.id _) Le.nil
        | (refine lendN (cs := ?_) rfl ?_ ?_; rotate_left
           · (refine AS.minus_box ?_ (by assumption) (by assumption); repeat' first | exact AS.set_get | assumption | refine set_other ?_ (by assumption))
           · (simp only [bentS, smallS, List.map_cons, List.map_nil, List.flatMap_cons, List.flatMap_nil, Named.flat_enc, List.append_nil, List.cons_append, List.nil_append]; repeat' (first | exact Lends.nil | refine Lends.cons ?_ ?_ | exact Lend.id _ | exact Lend.le (Lend.id _) Le.nil | exact Lend.le (Lend.id _) Le.gh | exact Lend.le (Lend.id _) tail0_le)))
end Go.Proofs.YtphnoaihojccbaaGreatDoor
set_option maxRecDepth 20000
namespace Go.Proofs.YtphnoaihojccbaaGreatDoor
open Go Go.Av
def tbTaleNum := And.intro (And.intro (And.intro (And.intro @tf3 (And.intro @tf4 @tf5)) (And.intro @tf85 (And.intro @tf9 @tf31))) (And.intro (And.intro @tf40 (And.intro @tf39 @tf22)) (And.intro @tf42 (And.intro @tf23 @tf44)))) (And.intro (And.intro (And.intro @tf24 (And.intro @tf46 @tf26)) (And.intro @isv_encs (And.intro @flat_encs @Seen.flat_enc))) (And.intro (And.intro @Seen.isv_enc (And.intro @Seen.fold_enc @isv_encE)) (And.intro @flat_encE (And.intro @isv_encN @flat_encN))))
variable {G : Nat → AV}
def keyT (t : Term) : List Int := [t.knd, t.num, t.items.length, t.tail.length, ((t.limbs.foldl (fun a x => a * 7 + x.toNat) 0 : Nat) : Int), if t.neg then 1 else 0]
def keyS (s : Seen) : List Int := [(s.out.length : Int), s.ended.length, s.names.length, s.verdict, s.spent, s.clock] ++ s.out.flatMap keyT ++ s.ended.flatMap (fun e => e.pid :: keyT e.reason) ++ s.names.flatMap (fun n => [n.pid, n.name.length, ((n.name.headD 0).toNat : Int)])
theorem key_inj : ∀ i, i < 18 → ∀ k, k < 18 → keyS (bentS i) = keyS (bentS k) → i = k := by decide +kernel
theorem bent_same (i k : Nat) (hi : i < 18) (hk : k < 18) : sameS (bentS i) (bentS k) = decide ((i : Int) = k) := by
  rw [Bool.eq_iff_iff, sameS_iff, decide_eq_true_eq]
  constructor
  · intro h
    have := key_inj i hi k hk (by rw [h])
    omega
  · intro h
    have : i = k := by omega
    rw [this]
theorem bent_bulk : ∀ i, i < 18 → (bentS i).bulk ≤ 2000000 := by decide +kernel
def rngB (s : Seen) : Bool := (s.ended.map (·.pid) ++ s.names.map (·.pid) ++ [s.verdict, s.spent, s.clock]).all fun n => decide (-9223372036854775808 ≤ n) && decide (n ≤ 9223372036854775807)
theorem rngB_rng {s : Seen} (h : rngB s = true) : s.Rng := by
  unfold rngB at h
  simp only [List.all_eq_true, List.mem_append, List.mem_map, List.mem_cons, List.not_mem_nil, or_false, Bool.and_eq_true, decide_eq_true_eq] at h
  exact ⟨fun e he => h _ (.inl (.inl ⟨e, he, rfl⟩)), fun e he => h _ (.inl (.inr ⟨e, he, rfl⟩)), h _ (.inr (.inl rfl)), h _ (.inr (.inr (.inl rfl))), h _ (.inr (.inr (.inr rfl)))⟩
theorem bent_rng : ∀ i, i < 18 → rngB (bentS i) = true := by decide +kernel
theorem bent_pure : ∀ i : Nat, i < 18 → Pure Tryz.prog G 17 [smallS.enc, .int .i64 (i : Int)] (bentS i).enc := fun i hi => bent_all i hi
def noS : Seen := ⟨[], [], [], 0, 0, 0⟩
theorem noS_le : Le (.agg [.nil, .nil, .nil, .int .i64 0, .int .i64 0, .int .i64 0]) noS.enc := seen_le noS (.cons Le.nil (.cons Le.nil (.cons Le.nil (.cons (Le.refl _) (.cons (Le.refl _) (.cons (Le.refl _) .nil))))))
set_option maxHeartbeats 1000000 in
theorem taleNumbers_pure (hg : GlobT G) : Pure Tryz.prog G 4 [] (.bool true) := by
  have w := awake_pure hg
  have hs : Pure Tryz.prog G 18 [] smallF := small_pure
  have hb : ∀ i : Nat, i < 18 → Pure Tryz.prog G 17 [smallF, .int .i64 (i : Int)] (bentS i).enc := fun i hi => (bent_pure i hi).lessArgs (.cons small_le (.cons (Le.refl _) .nil))
  have ht : ∀ i k : Nat, i < 18 → k < 18 → Pure Tryz.prog G 3 [(bentS i).enc, (bentS k).enc] (.bool true) := fun i k hi hk => taleTells_pure hg _ _ (bent_bulk i hi) (bent_bulk k hk) (rngB_rng (bent_rng i hi)) (rngB_rng (bent_rng k hk))
  have hm : ∀ i k : Nat, i < 18 → k < 18 → Pure Tryz.prog G 8 [(bentS i).enc, (bentS k).enc] (.bool (decide ((i : Int) = k))) := fun i k hi hk => by
    have := sameS_pure G (bentS i) (bentS k) (by have := bent_bulk i hi; omega) (by have := bent_bulk k hk; omega)
    rwa [bent_same i k hi hk] at this
  have h0 := (taleTells_pure hg noS smallS (by decide) small_bulk (rngB_rng (by decide)) small_rng).lessArgs (.cons noS_le (.cons small_le .nil))
  clear hg
  generalize smallF = sf at *
  intro σ
  refine Tri.back (Q := fun r => r = .bool true) ?_
  refine Tri.of_awp mixed Tryz.func4 rfl (by kernel_rfl) (by kernel_rfl) (by simp [Tryz.ntmps4]) Tryz.results4 ?_
  simp -dsimp only [↓bp, bq, br, seval, tbTaleNum]
  refine loop_intro (fun n e σ' => ∃ i : Nat, i ≤ 18 ∧ n = 18 - i ∧ e 1 = .int .i64 i ∧ σ.le σ') 18 ⟨0, by omega, by omega, by simp -dsimp only [↓bp, bq, br, seval, tbTaleNum]; first | done | rfl, AS.le.refl σ⟩ ?_
  rintro n e σ1 ⟨i, hi, rfl, h1, hl1⟩
  simp -dsimp only [↓bp, bq, br, seval, tbTaleNum] at h1
  by_cases hlt : (i : Int) < 18
  · have hlt' := eq_true hlt
    have hi18 : i < 18 := by omega
    have hwi : IntKind.i64.wrap ((i : Int) + 1) = ((i + 1 : Nat) : Int) := by rw [wrap_nat (by omega) (by omega)]; rfl
    have hbi := hb i hi18
    simp -dsimp only [↓bp, bq, br, seval, tbTaleNum, h1, hlt']
    refine loop_intro (fun n e' σ' => ∃ k : Nat, k ≤ 18 ∧ n = 18 - k ∧ e' 2 = .int .i64 k ∧ σ.le σ') 18 ⟨0, by omega, by omega, by simp -dsimp only [↓bp, bq, br, seval, tbTaleNum]; first | done | rfl, hl1⟩ ?_
    rintro n e2 σ2 ⟨k, hk, rfl, h2, hl2⟩
    simp -dsimp only [↓bp, bq, br, seval, tbTaleNum] at h2
    by_cases hlk : (k : Int) < 18
    · have hlk' := eq_true hlk
      have hk18 : k < 18 := by omega
      have hwk : IntKind.i64.wrap ((k : Int) + 1) = ((k + 1 : Nat) : Int) := by rw [wrap_nat (by omega) (by omega)]; rfl
      have hbk := hb k hk18
      have htt := ht i k hi18 hk18
      have hmm := hm i k hi18 hk18
      clear hb ht hm
      generalize bentS i = x at *
      generalize bentS k = y at *
      repeat' (first | refine xs ?_ ?_ <;> intros | ((first | refine xh ?_ | refine xi ?_); intro bx hbx; (try simp only [fb] at hbx)) | refine Pure.use (hs) ?_ | refine Pure.head (hs) ?_ | refine Pure.use (hbi) ?_ | refine Pure.head (hbi) ?_ | refine Pure.use (hbk) ?_ | refine Pure.head (hbk) ?_ | refine Pure.use (htt) ?_ | refine Pure.head (htt) ?_ | refine Pure.use (hmm) ?_ | refine Pure.head (hmm) ?_ | refine xj ?_ | ((with_reducible refine And.intro ?_ ?_); omega) | refine bo_buildSlice (d' := ⟨⟩) ?_ | refine xk (by kernel_rfl) ?_ | refine xf ?_ (by repeat' first | exact lr _ | assumption | refine ls ?_ ?_ | refine lt ?_ ?_ | simp only [*]; done | exact lf ‹_› (by simp only [*])) | simp -dsimp only [↓bp, bq, br, seval, tbTaleNum, *])
      all_goals exact ⟨18 - (k + 1), by omega, k + 1, by omega, rfl, rfl, by repeat' first | exact hl2 | (refine AS.le.setBox ?_ (by first | exact (hl2.fresh hbx.1).1 | exact (hl2.fresh (by assumption)).1) _)⟩
    · have : k = 18 := by omega
      subst this
      have hlk' := eq_false hlk
      clear hb ht hm
      simp -dsimp only [↓bp, bq, br, seval, tbTaleNum, h1, h2, hlk']
      exact ⟨18 - (i + 1), by omega, i + 1, by omega, rfl, by rw [hwi], hl2⟩
  · have : i = 18 := by omega
    subst this
    have hlt' := eq_false hlt
    clear hb ht hm
    repeat' (first | refine xs ?_ ?_ <;> intros | ((first | refine xh ?_ | refine xi ?_); intro bx hbx; (try simp only [fb] at hbx)) | refine Pure.use (hs) ?_ | refine Pure.head (hs) ?_ | refine Pure.use (h0) ?_ | refine Pure.head (h0) ?_ | refine Pure.use (w) ?_ | refine Pure.head (w) ?_ | refine xj ?_ | ((with_reducible refine And.intro ?_ ?_); omega) | refine bo_buildSlice (d' := ⟨⟩) ?_ | refine xk (by kernel_rfl) ?_ | refine xf ?_ (by repeat' first | exact lr _ | assumption | refine ls ?_ ?_ | refine lt ?_ ?_ | simp only [*]; done | exact lf ‹_› (by simp only [*])) | simp -dsimp only [↓bp, bq, br, seval, tbTaleNum, *])
    all_goals exact finishW_some _ (AS.le.refl _) ⟨rfl, hl1⟩
end Go.Proofs.YtphnoaihojccbaaGreatDoor
set_option maxRecDepth 100000
namespace Go.Proofs.YtphnoaihojccbaaGreatDoor
open Go Go.Av Go.RowKit
variable {H : Type}
def S : List TypeId := [42, 39, 4, 40, 85, 9, 3, 22, 210, 5, 137, 230]
theorem closedS : closedT Tryz.prog S = true := by kernel_rfl
def Gv : Nat → AV := fun g => if g = 0 then .rp (words.map AV.str) else if g = 2 then .tab powV else .raw (.pointer (some ⟨g, 0, none⟩))
theorem globGv : GlobT Gv := { words := rfl, pow := rfl }
theorem laid_tab {P : Program} {W : World} {S : List TypeId} (hS : closedT P S = true) {laid : List (String × DataW Unit)} (hL : laidMet P laid W) {n : String} {d : DataW Unit} (hm : (n, d) ∈ laid) {g : Nat} {t : TypeId} (hg : P.globalNamed n = some g)
    (ht : (P.globals[g]?).map (·.type) = some t) (htS : t ∈ S) {k : IntKind} {zs : List Int} (hcs : flat (avW d) = zs.map fun z => .int k z) : VR (entryK W) (.tab (zs.map fun z => .int k z)) (.pointer (some ⟨g, 0, none⟩)) := by
  obtain ⟨ps, h1, _⟩ := hL
  obtain ⟨g', t', vs, fuel, p, hg', ht', hvar, hd⟩ := laidVars_mem laid ps h1 hm
  obtain rfl := Option.some.inj (hg.symm.trans hg')
  obtain rfl := Option.some.inj (ht.symm.trans ht')
  obtain ⟨_, h2, _⟩ := read_all (K := entryK W) hS (fun b o v h => h) fuel t _ _ htS hd
  simp only [hcs] at h2
  have hsz := h2.size
  have hv : vs = (zs.map fun z => Value.int k z).toArray := by
    apply Array.toList_inj.1
    refine List.ext_getElem? fun j => ?_
    by_cases hj : j < zs.length
    · have h3 := h2.at_ j (by simpa using hj)
      simp only [List.getElem_map, VR.int_iff] at h3
      have hj2 : j < vs.toList.length := by rw [hsz]; simpa using hj
      rw [List.getD_eq_getElem?_getD, List.getElem?_eq_getElem hj2] at h3
      simp only [Option.getD_some] at h3
      rw [List.getElem?_eq_getElem hj2, h3]
      simp [hj]
    · rw [List.getElem?_eq_none (by simp at hsz ⊢; omega), List.getElem?_eq_none (by simp; omega)]
  unfold World.var? at hvar
  rw [hg] at hvar
  simp only [Option.bind_some] at hvar
  cases hw : W.heap[g]? with
  | none => rw [hw] at hvar; simp at hvar
  | some o =>
    rw [hw] at hvar
    cases o with
    | cells cs E fz =>
      simp only [Option.some.injEq] at hvar
      subst hvar
      rw [hv] at hw
      exact .tab _ g E fz (Array.getElem?_eq_some_iff.1 hw).1 hw
    | _ => simp at hvar
theorem entry_glob {W : World} {laid : List (String × DataW Unit)} (hL : laidMetH Tryz.prog laid W) (hl : laid = [("math/bits.deBruijn32tab", Rows.laid_math_bits_deBruijn32tab), ("math/bits.deBruijn64tab", Rows.laid_math_bits_deBruijn64tab), ("internal/strconv.uint64pow10", Rows.laid_internal_strconv_uint64pow10), ("pigeonhole/term.words", Rows.laid_pigeonhole_term_words)]) :
    ∀ g, VR (entryK W) (Gv g) (.pointer (some ⟨g, 0, none⟩)) := by
  subst hl
  have hL' : laidMet Tryz.prog [("math/bits.deBruijn32tab", Rows.laid_math_bits_deBruijn32tab), ("math/bits.deBruijn64tab", Rows.laid_math_bits_deBruijn64tab), ("internal/strconv.uint64pow10", Rows.laid_internal_strconv_uint64pow10), ("pigeonhole/term.words", Rows.laid_pigeonhole_term_words)] W := hL
  have h0 : VR (entryK W) (.rp (words.map AV.str)) (.pointer (some ⟨0, 0, none⟩)) :=
    laid_glob closedS hL' (n := "pigeonhole/term.words") (d := Rows.laid_pigeonhole_term_words) (by simp) (g := 0) (t := 210) (by kernel_rfl) (by kernel_rfl) (by decide) (by kernel_rfl)
  have h1 : VR (entryK W) (.tab powV) (.pointer (some ⟨2, 0, none⟩)) :=
    laid_tab closedS hL' (n := "internal/strconv.uint64pow10") (d := Rows.laid_internal_strconv_uint64pow10) (by simp) (g := 2) (t := 230) (k := .u64) (zs := Lib.pow10Tab) (by kernel_rfl) (by kernel_rfl) (by decide) (by kernel_rfl)
  intro g
  unfold Gv
  by_cases hg0 : g = 0
  · subst hg0; exact h0
  · by_cases hg1 : g = 2
    · subst hg1; exact h1
    · rw [if_neg hg0, if_neg hg1]; exact .raw _
end Go.Proofs.YtphnoaihojccbaaGreatDoor
set_option maxRecDepth 100000
namespace Go.Proofs.YtphnoaihojccbaaGreatDoor
open Go Go.Av Go.RowKit Go.ChangeShapes
variable {H : Type}
end Go.Proofs.YtphnoaihojccbaaGreatDoor
