/- The chapter's examples. -/
import Derived.Test.YtjnhalmeddafdaaDoorZLawKit
set_option linter.unusedVariables false
set_option linter.unusedSimpArgs false
set_option maxRecDepth 20000
set_option linter.defProp false
namespace Go.Proofs.YtjnhalmeddafdaaDoor
open Go Go.Av
def tbAwk := And.intro (And.intro (And.intro (And.intro @tf3 @tf4) (And.intro @tf5 @tf44)) (And.intro (And.intro @tf9 @tf23) (And.intro @tf22 (And.intro @tf24 @tf26)))) (And.intro (And.intro (And.intro @Term.flat_enc @Term.isv_enc) (And.intro @Term.fold_enc (And.intro @isv_encs @flat_encs))) (And.intro (And.intro @len_encs @ix_encs) (And.intro @ix_encs' (And.intro @isv_lims @flat_lims))))
variable {G : Nat → AV}
def w1 : Term := intTm 1
def w2 : Term := intTm 2
def aT : Term := atomTm [97]
def bT : Term := atomTm [98]
def exT : Term := tupTm [aT, impTm bT [w1, w2]]
theorem ex_size : size exT = 10 := by decide +kernel
theorem ex_text : text exT = [123, 97, 44, 91, 49, 44, 50, 124, 98, 93, 125] := by decide +kernel
theorem ex_cmp1 : compare (impTm w2 [w1]) (listT [w1] []) = -1 := by decide +kernel
theorem ex_cmp2 : compare (listT [w1] []) (listT [w1, w1] []) = -1 := by decide +kernel
theorem ex_text2 : text (atomTm [97, 32, 98]) = [39, 97, 32, 98, 39] := by decide +kernel
theorem ex_text3 : text (atomTm [105, 102]) = [39, 105, 102, 39] := by decide +kernel
theorem ex_text4 : text (listT [] []) = [91, 93] := by decide +kernel
theorem ex_same1 : sameT w1 w1 = true := by decide +kernel
theorem ex_cons : cons w1 (listT [w2] []) = listT [w1, w2] [] := by
  unfold cons
  rw [if_pos ⟨by decide +kernel, by decide +kernel, by decide +kernel⟩]; rfl
theorem ex_same2 : sameT (listT [w1, w2] []) (listT [w1, w2] []) = true := by decide +kernel
theorem ex_split : splitR (listT [w1, w2] []) = .tup [w1.enc, (listT [w2] []).enc, .bool true] := by
  unfold splitR split
  rw [if_pos ⟨by decide +kernel, rfl⟩]; rfl
theorem small (t : Term) (h : t.bulk ≤ 100) : t.bulk ≤ 1000000 := by omega
set_option maxHeartbeats 4000000 in
theorem awake_pure (hg : GlobT G) : Pure Tryd.prog G 8 [] (.bool true) := by
  have p1 := termsize_pure G exT (by decide)
  have p2 := text_pure hg exT (by decide)
  have p3 := compare_pure G (impTm w2 [w1]) (listT [w1] []) (by decide) (by decide)
  have p4 := compare_pure G (listT [w1] []) (listT [w1, w1] []) (by decide) (by decide)
  have p5 := text_pure hg (atomTm [97, 32, 98]) (by decide)
  have p6 := text_pure hg (atomTm [105, 102]) (by decide)
  have p7 := text_pure hg (listT [] []) (by decide)
  have p8 := sameT_pure G w1 w1 (by decide) (by decide)
  have p9 := cons_pure G w1 (listT [w2] []) (by decide) (by decide)
  have pa := sameT_pure G (listT [w1, w2] []) (listT [w1, w2] []) (by decide) (by decide)
  have pb := split_pure G (listT [w1, w2] []) (by decide)
  have pc : Pure Tryd.prog G 15 [.agg [.int .u8 0, .bool false, .nil, .str [], .int .i64 0, .nil, .nil]] (.bool (right zeroT)) := (right_pure G zeroT (by decide)).lessArgs (.cons zero_le .nil)
  rw [ex_size] at p1
  rw [ex_text] at p2
  rw [ex_cmp1] at p3
  rw [ex_cmp2] at p4
  rw [ex_text2] at p5
  rw [ex_text3] at p6
  rw [ex_text4] at p7
  rw [ex_same1] at p8
  rw [ex_cons] at p9
  rw [ex_same2] at pa
  rw [ex_split] at pb
  rw [zero_bad] at pc
  have a1 := atomL_pure (G := G) [97]
  have a2 := atomL_pure (G := G) [98]
  have a3 := atomL_pure (G := G) [97, 32, 98]
  have a4 := atomL_pure (G := G) [105, 102]
  have b1 := wholeL_pure (G := G) 1 1 rfl
  have b2 := wholeL_pure (G := G) 2 2 rfl
  have c1 := (impL_pure (G := G) bT [w1, w2]).lessArgs (.cons (Le.refl _) (.cons (le_full [w1, w2]) .nil))
  have c2 := (impL_pure (G := G) w2 [w1]).lessArgs (.cons (Le.refl _) (.cons (le_full [w1]) .nil))
  have d1 := (tupL_pure (G := G) [aT, impTm bT [w1, w2]]).lessArgs (.cons (le_full [aT, impTm bT [w1, w2]]) .nil)
  have e1 := (listL_pure (G := G) [w1, w2]).lessArgs (.cons (le_full [w1, w2]) .nil)
  have e2 := (listL_pure (G := G) [w1]).lessArgs (.cons (le_full [w1]) .nil)
  have e3 := (listL_pure (G := G) [w1, w1]).lessArgs (.cons (le_full [w1, w1]) .nil)
  have e4 : Pure Tryd.prog G 28 [.nil] (listT [] []).enc := (listL_pure (G := G) []).lessArgs (.cons Le.nil .nil)
  simp only [List.map_cons, List.map_nil] at c1 c2 d1 e1 e2 e3
  clear hg
  intro σ
  refine Tri.of_awp mixed Tryd.func8 rfl (by kernel_rfl) (by kernel_rfl) (by simp [Tryd.ntmps8]) Tryd.results8 ?_
  repeat' (first
    | with_reducible refine condW_both (fun _ _ => ?_) (fun _ _ => ?_)
    | with_reducible refine gW_both (fun _ _ => ?_) (fun _ _ => ?_)
    | with_reducible refine condW_split (fun _ => ?_) (fun _ => ?_)
    | with_reducible refine gW_split (fun _ => ?_) (fun _ => ?_)
    | with_reducible refine pickW_split (fun _ => ?_) (fun _ => ?_)
    | (refine newW_intro ?_; intro bx hbx; (try simp only [fresh_box, fresh_tip, fresh_ty] at hbx))
    | (refine newT_plain ?_; intro bx hbx; (try simp only [fresh_box, fresh_tip, fresh_ty] at hbx))
    | refine Pure.use (p1) ?_
    | refine Pure.head (p1) ?_
    | refine Pure.use (p2) ?_
    | refine Pure.head (p2) ?_
    | refine Pure.use (p3) ?_
    | refine Pure.head (p3) ?_
    | refine Pure.use (p4) ?_
    | refine Pure.head (p4) ?_
    | refine Pure.use (p5) ?_
    | refine Pure.head (p5) ?_
    | refine Pure.use (p6) ?_
    | refine Pure.head (p6) ?_
    | refine Pure.use (p7) ?_
    | refine Pure.head (p7) ?_
    | refine Pure.use (p8) ?_
    | refine Pure.head (p8) ?_
    | refine Pure.use (p9) ?_
    | refine Pure.head (p9) ?_
    | refine Pure.use (pa) ?_
    | refine Pure.head (pa) ?_
    | refine Pure.use (pb) ?_
    | refine Pure.head (pb) ?_
    | refine Pure.use (pc) ?_
    | refine Pure.head (pc) ?_
    | refine Pure.use (a1) ?_
    | refine Pure.head (a1) ?_
    | refine Pure.use (a2) ?_
    | refine Pure.head (a2) ?_
    | refine Pure.use (a3) ?_
    | refine Pure.head (a3) ?_
    | refine Pure.use (a4) ?_
    | refine Pure.head (a4) ?_
    | refine Pure.use (b1) ?_
    | refine Pure.head (b1) ?_
    | refine Pure.use (b2) ?_
    | refine Pure.head (b2) ?_
    | refine Pure.use (c1) ?_
    | refine Pure.head (c1) ?_
    | refine Pure.use (c2) ?_
    | refine Pure.head (c2) ?_
    | refine Pure.use (d1) ?_
    | refine Pure.head (d1) ?_
    | refine Pure.use (e1) ?_
    | refine Pure.head (e1) ?_
    | refine Pure.use (e2) ?_
    | refine Pure.head (e2) ?_
    | refine Pure.use (e3) ?_
    | refine Pure.head (e3) ?_
    | refine Pure.use (e4) ?_
    | refine Pure.head (e4) ?_
    | refine storeX_w ?_
    | ((with_reducible refine And.intro ?_ ?_); omega)
    | refine bo_buildSlice (d' := ⟨⟩) ?_
    | (refine draw_all (by kernel_rfl) ?_)
    | refine finish_pure ?_ (by repeat' (first | exact AS.le.refl _ | assumption | (refine le_set (by first | assumption | (simp only [*]; done) | exact AS.le.fresh (by assumption) (by simp only [*])) ?_) | (refine le_ty (by first | assumption | (simp only [*]; done) | exact AS.le.fresh (by assumption) (by simp only [*])) ?_)))
    | simp -dsimp only [↓bp, bq, br, afin, bsk, cWrites, opsWrites, pieceGh, rsk, ne_eq, if_true, if_false, exists_eq_left', forall_const, forall_eq, Nat.reduceLT, Int.reduceSub, Nat.reduceAdd, Nat.reduceSub, Nat.reduceMul, Nat.reduceLeDiff, Nat.reduceEqDiff, Nat.reduceBEq, Nat.reduceBNe, Int.reduceNeg, Int.reduceAdd, Int.reduceMul, Int.reduceLE, Int.reduceLT, Int.reduceEq, Int.reduceToNat, reduceIte, reduceCtorEq, tbAwk, *])
  all_goals rfl
end Go.Proofs.YtjnhalmeddafdaaDoor
