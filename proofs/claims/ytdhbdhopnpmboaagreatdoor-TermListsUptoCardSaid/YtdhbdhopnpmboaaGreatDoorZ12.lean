/- What the package says of terms: parted. -/
import Derived.Test.YtdhbdhopnpmboaaGreatDoorZ11
import Derived.Test.YtdhbdhopnpmboaaGreatDoorZ06
import Derived.Test.YtdhbdhopnpmboaaGreatDoorZ07
set_option linter.unusedVariables false
set_option linter.unusedSimpArgs false
set_option maxRecDepth 20000
set_option linter.defProp false
namespace Go.Proofs.YtdhbdhopnpmboaaGreatDoor
open Go Go.Av
section
def tbTermApi3 := And.intro (And.intro (And.intro (And.intro @tf3 (And.intro @tf4 @tf5)) (And.intro (And.intro @tf47 @tf9) (And.intro @tf23 @tf22))) (And.intro (And.intro @tf24 (And.intro @tf26 @tf36)) (And.intro (And.intro @Term.flat_enc @Term.isv_enc) (And.intro @Term.fold_enc @isv_encs)))) (And.intro (And.intro (And.intro @flat_encs (And.intro @len_encs @ix_encs)) (And.intro (And.intro @ix_encs' @isv_lims) (And.intro @flat_lims @len_lims))) (And.intro (And.intro @ix_lims (And.intro @ix_lims' @flat_limA)) (And.intro (And.intro @ares_cons2 @ares1_tmp) (And.intro @ares1_cell @aresk_some))))
variable (G : Nat -> AV)
def splitR (t : Term) : AV := match split t with
 | some (h, r) => .tup [h.enc, r.enc, .bool true]
 | none => .tup [zeroT.enc, zeroT.enc, .bool false]
theorem zero_le : Le (.agg [.int .u8 0, .bool false, .nil, .str [], .int .i64 0, .nil, .nil]) zeroT.enc := enc_nil 0 false [] 0
set_option maxHeartbeats 1000000 in
theorem split_pure (t : Term) (hb : t.bulk <= 300000000) : Pure Tryz.prog G 21 [t.enc] (splitR t) := by
 have rt := right_pure G t (by omega)
 have hbt := t.bulk_eq
 refine Pure.of_le fun σ => ?_
 cases et : right t with
 | false =>
  have e : splitR t = .tup [zeroT.enc, zeroT.enc, .bool false] := by unfold splitR split; rw [if_neg (by simp [et])]
  rw [e]
  rw [et] at rt
  clear hbt
  refine Tri.of_awp mixed Tryz.func21 rfl (by kernel_rfl) (by kernel_rfl) (by simp [Tryz.ntmps21]) Tryz.results21 ?_
  repeat' (first | refine xs ?_ ?_ <;> intros | (refine wn ?_; intro bx hbx; try simp only [fb] at hbx) | refine wp rt ?_ | refine wj ?_ | simp -dsimp only [↓bp, bq, br, seval, tbTermApi3, *] | refine wz ?_ | fail)
  refine finishW_some σ (by repeat' first | exact lr _ | assumption | refine ls ?_ ?_ | refine lt ?_ ?_ | simp only [*]; done | simp only [fb, *, not_false_eq_true, and_self]; done | exact lf ‹_› (by simp only [*])) ?_
  exact ⟨Le.tup (.cons zero_le (.cons zero_le (.cons (Le.refl _) .nil))), rfl⟩
 | true =>
  rw [et] at rt
  by_cases h7 : t.knd = 7
  rotate_left
  ·have e : splitR t = .tup [zeroT.enc, zeroT.enc, .bool false] := by unfold splitR split; rw [if_neg (by simp [h7])]
   rw [e]
   have k7 := eq_false h7
   clear h7 hbt
   refine Tri.of_awp mixed Tryz.func21 rfl (by kernel_rfl) (by kernel_rfl) (by simp [Tryz.ntmps21]) Tryz.results21 ?_
   repeat' (first | refine xs ?_ ?_ <;> intros | (refine wn ?_; intro bx hbx; try simp only [fb] at hbx) | refine wp rt ?_ | refine wj ?_ | simp -dsimp only [↓bp, bq, br, seval, tbTermApi3, *] | refine wz ?_ | fail)
   refine finishW_some σ (by repeat' first | exact lr _ | assumption | refine ls ?_ ?_ | refine lt ?_ ?_ | simp only [*]; done | simp only [fb, *, not_false_eq_true, and_self]; done | exact lf ‹_› (by simp only [*])) ?_
   exact ⟨Le.tup (.cons zero_le (.cons zero_le (.cons (Le.refl _) .nil))), rfl⟩
  ·have k7 := eq_true h7
   cases hi : t.items with
   | nil =>
    have e : splitR t = .tup [zeroT.enc, zeroT.enc, .bool false] := by unfold splitR split; rw [if_pos ⟨et, h7⟩, hi]
    rw [e]
    have hl : (t.items.length : Int) = 0 := by rw [hi]; rfl
    clear h7 hbt hi e
    refine Tri.of_awp mixed Tryz.func21 rfl (by kernel_rfl) (by kernel_rfl) (by simp [Tryz.ntmps21]) Tryz.results21 ?_
    repeat' (first | refine xs ?_ ?_ <;> intros | (refine wn ?_; intro bx hbx; try simp only [fb] at hbx) | refine wp rt ?_ | refine wj ?_ | simp -dsimp only [↓bp, bq, br, seval, tbTermApi3, *] | refine wz ?_ | fail)
    refine finishW_some σ (by repeat' first | exact lr _ | assumption | refine ls ?_ ?_ | refine lt ?_ ?_ | simp only [*]; done | simp only [fb, *, not_false_eq_true, and_self]; done | exact lf ‹_› (by simp only [*])) ?_
    exact ⟨Le.tup (.cons zero_le (.cons zero_le (.cons (Le.refl _) .nil))), rfl⟩
   | cons x l =>
    have hx : t.items[0]? = some x := by rw [hi]; rfl
    have hbx : x.bulk <= bulks t.items := bulk_mem (by rw [hi]; simp)
    have cx := copy_pure G x (by omega)
    have hl0 : ¬ (t.items.length : Int) = 0 := by rw [hi]; simp; omega
    cases l with
    | nil =>
     have e : splitR t = .tup [x.enc, (tailOf t).enc, .bool true] := by unfold splitR split; rw [if_pos ⟨et, h7⟩, hi]
     rw [e]
     have hl1 : ¬ (1 : Int) < t.items.length := by rw [hi]; simp
     have t1 := tail_pure G t
     have t2 := copy_pure G (tailOf t) (by
      unfold tailOf
      cases htl : t.tail with
      | nil => simp [listT, Term.bulk, bulks]
      | cons y r => have := bulk_mem (show y ∈ t.tail by rw [htl]; simp); simp only; omega)
     clear h7 hbt hi e hbx
     refine Tri.of_awp mixed Tryz.func21 rfl (by kernel_rfl) (by kernel_rfl) (by simp [Tryz.ntmps21]) Tryz.results21 ?_
     repeat' (first | refine xs ?_ ?_ <;> intros | (refine wn ?_; intro bx hbx; try simp only [fb] at hbx) | refine wp rt ?_ | refine wp cx ?_ | refine wp t1 ?_ | refine wp t2 ?_ | refine wj ?_ | simp -dsimp only [↓bp, bq, br, seval, tbTermApi3, *] | refine wz ?_ | fail)
     refine finishW_some σ (by repeat' first | exact lr _ | assumption | refine ls ?_ ?_ | refine lt ?_ ?_ | simp only [*]; done | simp only [fb, *, not_false_eq_true, and_self]; done | exact lf ‹_› (by simp only [*])) ?_
     exact ⟨Le.tup (.cons (Le.refl _) (.cons (Le.refl _) (.cons (Le.refl _) .nil))), rfl⟩
    | cons y r =>
     have e : splitR t = .tup [x.enc, (listT (y :: r) t.tail).enc, .bool true] := by unfold splitR split; rw [if_pos ⟨et, h7⟩, hi]
     rw [e]
     have hl1 : (1 : Int) < t.items.length := by rw [hi]; simp; omega
     have hl2 : 1 <= t.items.length := by omega
     have hdr : (t.items.take t.items.length).drop 1 = y :: r := by rw [List.take_length, hi]; rfl
     have hdr2 : t.items.drop 1 = y :: r := by rw [hi]; rfl
     have hbb : bulks t.items = x.bulk + bulks (y :: r) := by rw [hi]; rfl
     have c1 := copies_row G (y :: r) (by omega)
     have c2 := copies_row G t.tail (by omega)
     clear h7 hbt hi e hbx hbb
     generalize y :: r = q at *
     refine Tri.of_awp mixed Tryz.func21 rfl (by kernel_rfl) (by kernel_rfl) (by simp [Tryz.ntmps21]) Tryz.results21 ?_
     repeat' (first | refine xs ?_ ?_ <;> intros | (refine wn ?_; intro bx hbx; try simp only [fb] at hbx) | refine wp rt ?_ | refine wp cx ?_ | refine wp c1 ?_ | refine wp c2 ?_ | (refine draw_intro 12 (by kernel_rfl) rfl rfl ?_) | (refine same_st (z := flat x.enc) tf26.1 (by rw [Term.flat_enc]; simp -dsimp only [↓bp, bq, br, seval, tbTermApi3, hbx]) x.isv_enc (by rw [Term.flat_enc]; rfl) (by rw [Term.flat_enc]; simp) (by rw [Term.flat_enc]; rfl) ?_) | refine wj ?_ | simp -dsimp only [↓bp, bq, br, seval, tbTermApi3, sl_encs, *] | refine wz ?_ | fail)
     refine finishW_some σ (by repeat' first | exact lr _ | assumption | refine ls ?_ ?_ | refine lt ?_ ?_ | simp only [*]; done | simp only [fb, *, not_false_eq_true, and_self]; done | exact lf ‹_› (by simp only [*])) ?_
     exact ⟨Le.tup (.cons (Le.refl _) (.cons (listT_le _ _) (.cons (Le.refl _) .nil))), rfl⟩
end
set_option maxRecDepth 20000
section
def tbLawKit := And.intro (And.intro (And.intro (And.intro @tf3 @tf4) (And.intro @tf5 @tf47)) (And.intro (And.intro @tf9 @tf23) (And.intro @tf22 (And.intro @tf24 @tf26)))) (And.intro (And.intro (And.intro @Term.flat_enc @Term.isv_enc) (And.intro @Term.fold_enc (And.intro @isv_encs @flat_encs))) (And.intro (And.intro @len_encs @ix_encs) (And.intro @ix_encs' (And.intro @isv_lims @flat_lims))))
variable {G : Nat -> AV}
def atomTm (s : List UInt8) : Term := .mk 2 false [] s 0 [] []
def intTm (n : UInt32) : Term := .mk 1 false [n] [] 0 [] []
def tupTm (l : List Term) : Term := .mk 6 false [] [] 0 l []
def impTm (tl : Term) (l : List Term) : Term := .mk 7 false [] [] 0 l [tl]
theorem le_full (l : List Term) : Le (.sl .full (l.map Term.enc) []) (encs l) := Le.gh
theorem fold_le (t : Term) {cs : List AV} (h : Les cs [.int .u8 t.knd, .bool t.neg, lims t.limbs, .str t.text, .int .i64 t.num, encs t.items, encs t.tail]) : Le (.agg cs) t.enc := by
 rw [<- Term.fold_enc t]
 exact Le.agg h (fun d hd => ones t d (by rw [Term.flat_enc]; exact hd))
theorem atomL_pure (s : List UInt8) : Pure Tryz.prog G 30 [.str s] (atomTm s).enc := by
 refine Pure.of_le fun σ => ?_
 refine Tri.of_awp mixed Tryz.func30 rfl (by kernel_rfl) (by kernel_rfl) (by simp [Tryz.ntmps30]) Tryz.results30 ?_
 repeat' (first | refine xs ?_ ?_ <;> intros | (refine wn ?_; intro bx hbx; try simp only [fb] at hbx) | refine wj ?_ | simp -dsimp only [↓bp, bq, br, seval, tbLawKit, *] | refine wz ?_ | fail)
 exact finish_le (enc_nil 2 false s 0) (by repeat' first | exact lr _ | assumption | refine ls ?_ ?_ | refine lt ?_ ?_ | simp only [*]; done | simp only [fb, *, not_false_eq_true, and_self]; done | exact lf ‹_› (by simp only [*]))
theorem wholeL_pure (n : UInt32) (m : Int) (hm : m = n.toNat) : Pure Tryz.prog G 31 [.int .u32 m] (intTm n).enc := by
 subst hm
 refine Pure.of_le fun σ => ?_
 refine Tri.of_awp mixed Tryz.func31 rfl (by kernel_rfl) (by kernel_rfl) (by simp [Tryz.ntmps31]) Tryz.results31 ?_
 repeat' (first | refine xs ?_ ?_ <;> intros | (refine wn ?_; intro bx hbx; try simp only [fb] at hbx) | refine wj ?_ | simp -dsimp only [↓bp, bq, br, seval, tbLawKit, *] | refine wz ?_ | fail)
 exact finish_le (fold_le (intTm n) (.cons (Le.refl _) (.cons (Le.refl _) (.cons Le.gh (.cons (Le.refl _) (.cons (Le.refl _) (.cons Le.nil (.cons Le.nil .nil)))))))) (by repeat' first | exact lr _ | assumption | refine ls ?_ ?_ | refine lt ?_ ?_ | simp only [*]; done | simp only [fb, *, not_false_eq_true, and_self]; done | exact lf ‹_› (by simp only [*]))
theorem listL_pure (l : List Term) : Pure Tryz.prog G 33 [encs l] (listT l []).enc := by
 refine Pure.of_le fun σ => ?_
 refine Tri.of_awp mixed Tryz.func33 rfl (by kernel_rfl) (by kernel_rfl) (by simp [Tryz.ntmps33]) Tryz.results33 ?_
 repeat' (first | refine xs ?_ ?_ <;> intros | (refine wn ?_; intro bx hbx; try simp only [fb] at hbx) | refine wj ?_ | simp -dsimp only [↓bp, bq, br, seval, tbLawKit, *] | refine wz ?_ | fail)
 exact finish_le (fold_le (listT l []) (.cons (Le.refl _) (.cons (Le.refl _) (.cons Le.nil (.cons (Le.refl _) (.cons (Le.refl _) (.cons (Le.refl _) (.cons Le.nil .nil)))))))) (by repeat' first | exact lr _ | assumption | refine ls ?_ ?_ | refine lt ?_ ?_ | simp only [*]; done | simp only [fb, *, not_false_eq_true, and_self]; done | exact lf ‹_› (by simp only [*]))
theorem tupL_pure (l : List Term) : Pure Tryz.prog G 32 [encs l] (tupTm l).enc := by
 refine Pure.of_le fun σ => ?_
 refine Tri.of_awp mixed Tryz.func32 rfl (by kernel_rfl) (by kernel_rfl) (by simp [Tryz.ntmps32]) Tryz.results32 ?_
 repeat' (first | refine xs ?_ ?_ <;> intros | (refine wn ?_; intro bx hbx; try simp only [fb] at hbx) | refine wj ?_ | simp -dsimp only [↓bp, bq, br, seval, tbLawKit, *] | refine wz ?_ | fail)
 exact finish_le (fold_le (tupTm l) (.cons (Le.refl _) (.cons (Le.refl _) (.cons Le.nil (.cons (Le.refl _) (.cons (Le.refl _) (.cons (Le.refl _) (.cons Le.nil .nil)))))))) (by repeat' first | exact lr _ | assumption | refine ls ?_ ?_ | refine lt ?_ ?_ | simp only [*]; done | simp only [fb, *, not_false_eq_true, and_self]; done | exact lf ‹_› (by simp only [*]))
theorem impL_pure (tl : Term) (l : List Term) : Pure Tryz.prog G 35 [tl.enc, encs l] (impTm tl l).enc := by
 refine Pure.of_le fun σ => ?_
 refine Tri.of_awp mixed Tryz.func35 rfl (by kernel_rfl) (by kernel_rfl) (by simp [Tryz.ntmps35]) Tryz.results35 ?_
 repeat' (first | refine xs ?_ ?_ <;> intros | (refine wn ?_; intro bx hbx; try simp only [fb] at hbx) | refine wj ?_ | simp -dsimp only [↓bp, bq, br, seval, tbLawKit, *] | refine wz ?_ | fail)
 exact finish_le (fold_le (impTm tl l) (.cons (Le.refl _) (.cons (Le.refl _) (.cons Le.nil (.cons (Le.refl _) (.cons (Le.refl _) (.cons (Le.refl _) (.cons (le_full [tl]) .nil)))))))) (by repeat' first | exact lr _ | assumption | refine ls ?_ ?_ | refine lt ?_ ?_ | simp only [*]; done | simp only [fb, *, not_false_eq_true, and_self]; done | exact lf ‹_› (by simp only [*]))
end
set_option maxRecDepth 20000
section
def tbAwk := And.intro (And.intro (And.intro (And.intro @tf3 @tf4) (And.intro @tf5 @tf47)) (And.intro (And.intro @tf9 @tf23) (And.intro @tf22 (And.intro @tf24 @tf26)))) (And.intro (And.intro (And.intro @Term.flat_enc @Term.isv_enc) (And.intro @Term.fold_enc (And.intro @isv_encs @flat_encs))) (And.intro (And.intro @len_encs @ix_encs) (And.intro @ix_encs' (And.intro @isv_lims @flat_lims))))
variable {G : Nat -> AV}
def w1 : Term := intTm 1
def w2 : Term := intTm 2
def aT : Term := atomTm [97]
def bT : Term := atomTm [98]
def exT : Term := tupTm [aT, impTm bT [w1, w2]]
theorem ex_size : size exT = 10 := by decide +kernel
theorem ex_text : text exT = [123, 97, 44, 91, 49, 44, 50, 124, 98, 93, 125] := by decide +kernel
theorem ex_cmp1 : compare (impTm w2 [w1]) (listT [w1] []) = -1 := by decide +kernel
theorem ex_cmp2 : compare (listT [w1] []) (listT [w1, w1] []) = -1 := by decide +kernel
theorem ex_text2 : text (atomTm [97, 32, 98]) = [39, 97, 32, 98, 39] := by decide +kernel
theorem ex_text3 : text (atomTm [105, 102]) = [39, 105, 102, 39] := by decide +kernel
theorem ex_text4 : text (listT [] []) = [91, 93] := by decide +kernel
theorem ex_same1 : sameT w1 w1 = true := by decide +kernel
theorem ex_cons : cons w1 (listT [w2] []) = listT [w1, w2] [] := by
 unfold cons
 rw [if_pos ⟨by decide +kernel, by decide +kernel, by decide +kernel⟩]; rfl
theorem ex_same2 : sameT (listT [w1, w2] []) (listT [w1, w2] []) = true := by decide +kernel
theorem ex_split : splitR (listT [w1, w2] []) = .tup [w1.enc, (listT [w2] []).enc, .bool true] := by
 unfold splitR split
 rw [if_pos ⟨by decide +kernel, rfl⟩]; rfl
set_option maxHeartbeats 4000000 in
theorem awake_pure (hg : GlobT G) : Pure Tryz.prog G 7 [] (.bool true) := by
 have p1 := termsize_pure G exT (by decide)
 have p2 := text_pure hg exT (by decide)
 have p3 := compare_pure G (impTm w2 [w1]) (listT [w1] []) (by decide) (by decide)
 have p4 := compare_pure G (listT [w1] []) (listT [w1, w1] []) (by decide) (by decide)
 have p5 := text_pure hg (atomTm [97, 32, 98]) (by decide)
 have p6 := text_pure hg (atomTm [105, 102]) (by decide)
 have p7 := text_pure hg (listT [] []) (by decide)
 have p8 := sameT_pure G w1 w1 (by decide) (by decide)
 have p9 := cons_pure G w1 (listT [w2] []) (by decide) (by decide)
 have pa := sameT_pure G (listT [w1, w2] []) (listT [w1, w2] []) (by decide) (by decide)
 have pb := split_pure G (listT [w1, w2] []) (by decide)
 have pc : Pure Tryz.prog G 9 [.agg [.int .u8 0, .bool false, .nil, .str [], .int .i64 0, .nil, .nil]] (.bool (right zeroT)) := (right_pure G zeroT (by decide)).lessArgs (.cons zero_le .nil)
 rw [ex_size] at p1
 rw [ex_text] at p2
 rw [ex_cmp1] at p3
 rw [ex_cmp2] at p4
 rw [ex_text2] at p5
 rw [ex_text3] at p6
 rw [ex_text4] at p7
 rw [ex_same1] at p8
 rw [ex_cons] at p9
 rw [ex_same2] at pa
 rw [ex_split] at pb
 rw [zero_bad] at pc
 have a1 := atomL_pure (G := G) [97]
 have a2 := atomL_pure (G := G) [98]
 have a3 := atomL_pure (G := G) [97, 32, 98]
 have a4 := atomL_pure (G := G) [105, 102]
 have b1 := wholeL_pure (G := G) 1 1 rfl
 have b2 := wholeL_pure (G := G) 2 2 rfl
 have c1 := (impL_pure (G := G) bT [w1, w2]).lessArgs (.cons (Le.refl _) (.cons (le_full [w1, w2]) .nil))
 have c2 := (impL_pure (G := G) w2 [w1]).lessArgs (.cons (Le.refl _) (.cons (le_full [w1]) .nil))
 have d1 := (tupL_pure (G := G) [aT, impTm bT [w1, w2]]).lessArgs (.cons (le_full [aT, impTm bT [w1, w2]]) .nil)
 have e1 := (listL_pure (G := G) [w1, w2]).lessArgs (.cons (le_full [w1, w2]) .nil)
 have e2 := (listL_pure (G := G) [w1]).lessArgs (.cons (le_full [w1]) .nil)
 have e3 := (listL_pure (G := G) [w1, w1]).lessArgs (.cons (le_full [w1, w1]) .nil)
 have e4 : Pure Tryz.prog G 33 [.nil] (listT [] []).enc := (listL_pure (G := G) []).lessArgs (.cons Le.nil .nil)
 simp only [List.map_cons, List.map_nil] at c1 c2 d1 e1 e2 e3
 clear hg
 intro σ
 refine Tri.of_awp mixed Tryz.func7 rfl (by kernel_rfl) (by kernel_rfl) (by simp [Tryz.ntmps7]) Tryz.results7 ?_
 repeat' (first | refine xs ?_ ?_ <;> intros | (refine wn ?_; intro bx hbx; try simp only [fb] at hbx) | refine wp p1 ?_ | refine wp p2 ?_ | refine wp p3 ?_ | refine wp p4 ?_ | refine wp p5 ?_ | refine wp p6 ?_ | refine wp p7 ?_ | refine wp p8 ?_ | refine wp p9 ?_ | refine wp pa ?_ | refine wp pb ?_ | refine wp pc ?_ | refine wp a1 ?_ | refine wp a2 ?_ | refine wp a3 ?_ | refine wp a4 ?_ | refine wp b1 ?_ | refine wp b2 ?_ | refine wp c1 ?_ | refine wp c2 ?_ | refine wp d1 ?_ | refine wp e1 ?_ | refine wp e2 ?_ | refine wp e3 ?_ | refine wp e4 ?_ | refine wj ?_ | simp -dsimp only [↓bp, bq, br, seval, tbAwk, *] | refine wz ?_ | fail)
 all_goals rfl
end
section
mutual
def rsize : Term -> Int
 | .mk k g l s n ks ts =>
  if (k.toNat : Int) = 1 then (if wr (.mk k g l s n ks ts) = true then 1 + l.length else -1)
  else if (head (.mk k g l s n ks ts)).2.2 = false then -1
  else if ritems ks (head (.mk k g l s n ks ts)).1 (head (.mk k g l s n ks ts)).2.1 < 0 then -1
  else ritems ts (ritems ks (head (.mk k g l s n ks ts)).1 (head (.mk k g l s n ks ts)).2.1) 0
def ritems : List Term -> Int -> Int -> Int
 | [], n, _ => n
 | x :: l, n, each => if rsize x < 0 then -1 else ritems l (n + rsize x + each) each
end
theorem rsize_eq (t : Term) : rsize t = if t.knd = 1 then (if wr t = true then (1 + t.limbs.length : Int) else -1) else if (head t).2.2 = false then -1
  else if ritems t.items (head t).1 (head t).2.1 < 0 then -1 else ritems t.tail (ritems t.items (head t).1 (head t).2.1) 0 := by
 cases t; rw [rsize]; rfl
def SR (s r : Int) : Prop := 0 < s /\ r = s /\ s <= 4096 \/ s = 0 /\ (r = -1 \/ 4096 < r)
theorem ritems_ge (l : List Term) (each : Int) (he : 0 <= each) (h : ∀ x, x ∈ l -> rsize x = -1 \/ 0 < rsize x) : ∀ n, ritems l n each = -1 \/ n <= ritems l n each := by
 induction l with
 | nil => intro n; exact .inr (Int.le_refl _)
 | cons x l ih =>
  intro n
  simp only [ritems]
  have hx := h x (by simp)
  have h2 := ih (fun y hy => h y (by simp [hy])) (n + rsize x + each)
  split <;> omega
theorem SR.pos {s r : Int} (h : SR s r) : r = -1 \/ 0 < r := by unfold SR at h; omega
theorem adds_ritems (l : List Term) (each : Int) (he : 0 <= each) (h : ∀ x, x ∈ l -> SR (size x) (rsize x)) : ∀ n, 0 < n -> n <= 4096 ->
  ((adds l each (n, true)).2 = true /\ ritems l n each = (adds l each (n, true)).1) \/ ((adds l each (n, true)).2 = false /\ (ritems l n each = -1 \/ 4096 < ritems l n each)) := by
 induction l with
 | nil => intro n _ _; exact .inl ⟨rfl, rfl⟩
 | cons x l ih =>
  intro n h0 h1
  have hx := h x (by simp)
  have hp : ∀ y, y ∈ l -> rsize y = -1 \/ 0 < rsize y := fun y hy => (h y (by simp [hy])).pos
  simp only [adds, ritems, if_true]
  have hge := ritems_ge l each he hp
  unfold SR at hx
  rcases hx with ⟨a, b, c⟩ | ⟨a, b⟩
  ·rw [b, if_neg (by omega)]
   by_cases hc : n + size x + each <= 4096
   ·rw [decide_eq_true a, decide_eq_true hc]
    exact ih (fun y hy => h y (by simp [hy])) _ (by omega) hc
   ·rw [decide_eq_false hc, Bool.and_false, adds_false]
    have := hge (n + size x + each)
    exact .inr ⟨rfl, by omega⟩
  ·rw [a]
   have e : decide ((0 : Int) < 0) = false := rfl
   rw [e, Bool.false_and, adds_false]
   refine .inr ⟨rfl, ?_⟩
   split
   ·exact .inl rfl
   ·have := hge (n + rsize x + each)
    omega
theorem adds_false' (l : List Term) (a : Int × Bool) (h : a.2 = false) : adds l 0 a = (a.1, a.2) := by
 have e : a = (a.1, false) := by rw [<- h]
 rw [e, adds_false]
theorem size_rsize (t : Term) : SR (size t) (rsize t) := by
 refine Term.ind (P := fun t => SR (size t) (rsize t)) (fun t ih1 ih2 => ?_) t
 obtain ⟨h1, h2, h3, h4⟩ := head_le t
 rw [size_eq, rsize_eq]
 by_cases k1 : t.knd = 1
 ·rw [if_pos k1, if_pos k1]
  by_cases hw : wr t = true
  ·rw [if_pos hw, if_pos hw]
   have := (wr_spec hw).2.2.2.2.2.1
   unfold SR; omega
  ·rw [if_neg hw, if_neg hw]
   unfold SR; omega
 ·rw [if_neg k1, if_neg k1]
  cases hh : (head t).2.2
  ·rw [adds_false, adds_false]
   simp [SR]
  ·have a := adds_ritems t.items (head t).2.1 h3 ih1 (head t).1 h1 (by omega)
   rw [if_neg (show ¬ (true = false) by decide)]
   have hge1 := ritems_ge t.items (head t).2.1 h3 (fun y hy => (ih1 y hy).pos) (head t).1
   have hge2 := ritems_ge t.tail 0 (by omega) (fun y hy => (ih2 y hy).pos)
   have hle := adds_le t.items (fun x hx => size_le x) (head t).2.1 h3 h4 ((head t).1, true) h1 (fun _ => by simp only; omega) (by simp only; omega)
   rcases a with ⟨a1, a2⟩ | ⟨a1, a2⟩
   ·rw [a2]
    obtain ⟨p, hp⟩ : ∃ p, p = adds t.items (head t).2.1 ((head t).1, true) := ⟨_, rfl⟩
    rw [<- hp] at a1 a2 hle ⊢
    have ep : p = (p.1, true) := by rw [<- a1]
    rw [if_neg (show ¬ p.1 < 0 by omega)]
    have b := adds_ritems t.tail 0 (by omega) ih2 p.1 hle.1 (hle.2.1 a1)
    rw [<- ep] at b
    have hle2 := adds_le t.tail (fun x hx => size_le x) 0 (by omega) (by omega) p hle.1 hle.2.1 hle.2.2
    rcases b with ⟨b1, b2⟩ | ⟨b1, b2⟩
    ·rw [if_pos b1, b2]
     have := hle2.2.1 b1
     exact .inl ⟨hle2.1, rfl, this⟩
    ·rw [if_neg (by simp [b1])]
     exact .inr ⟨rfl, b2⟩
   ·have e : adds t.tail 0 (adds t.items (head t).2.1 ((head t).1, true)) = ((adds t.items (head t).2.1 ((head t).1, true)).1, false) := by
     rw [<- a1]; exact adds_false' _ _ a1
    rw [e, if_neg (by simp)]
    refine .inr ⟨rfl, ?_⟩
    split
    ·exact .inl rfl
    ·have := hge2 (ritems t.items (head t).1 (head t).2.1)
     omega
theorem right_rsize (t : Term) : right t = (decide (0 < rsize t) && decide (rsize t <= 4096)) := by
 have h := size_rsize t
 unfold SR at h
 unfold right
 rw [Bool.eq_iff_iff]
 simp only [Bool.and_eq_true, decide_eq_true_eq]
 omega
end
set_option maxRecDepth 20000
section
def tbRefE := And.intro (And.intro (And.intro (And.intro @tf3 @tf4) (And.intro @tf5 (And.intro @tf47 @tf9))) (And.intro (And.intro @tf23 (And.intro @tf22 @tf24)) (And.intro @tf26 (And.intro @Term.flat_enc @Term.isv_enc)))) (And.intro (And.intro (And.intro @Term.fold_enc (And.intro @isv_encs @flat_encs)) (And.intro @len_encs (And.intro @ix_encs @ix_encs'))) (And.intro (And.intro @isv_lims (And.intro @flat_lims @len_lims)) (And.intro @ix_lims (And.intro @ix_lims' @flat_limA))))
theorem ritems_le (l : List Term) (each : Int) (he0 : 0 <= each) (he : each <= 1) (h : ∀ x, x ∈ l -> -1 <= rsize x /\ rsize x + 1 <= 3 * x.bulk) : ∀ n, 0 <= n -> -1 <= ritems l n each /\ ritems l n each <= n + 3 * bulks l := by
 induction l with
 | nil => intro n hn; simp only [ritems, bulks]; omega
 | cons x l ih =>
  intro n hn
  have hx := h x (by simp)
  simp only [ritems, bulks]
  split
  ·omega
  ·have := ih (fun y hy => h y (by simp [hy])) (n + rsize x + each) (by omega)
   omega
theorem rsize_le (t : Term) : -1 <= rsize t /\ rsize t + 1 <= 3 * t.bulk := by
 refine Term.ind (P := fun t => -1 <= rsize t /\ rsize t + 1 <= 3 * t.bulk) (fun t ih1 ih2 => ?_) t
 obtain ⟨h1, h2, h3, h4⟩ := head_le t
 have hb := t.bulk_eq
 rw [rsize_eq]
 split
 ·split <;> omega
 ·split
  ·omega
  ·have a := ritems_le t.items (head t).2.1 h3 h4 ih1 (head t).1 (by omega)
   split
   ·omega
   ·have b := ritems_le t.tail 0 (by omega) (by omega) ih2 (ritems t.items (head t).1 (head t).2.1) (by omega)
    omega
variable (G : Nat -> AV)
theorem items_pure (l : List Term) (n each : Int) (he0 : 0 <= each) (he : each <= 1) (hn0 : 0 <= n) (hn : n <= 100000000000) (hb : bulks l <= 1000000000) (h : ∀ x, x ∈ l -> Pure Tryz.prog G 55 [x.enc] (.int .i64 (rsize x))) :
  Pure Tryz.prog G 84 [encs l, .int .i64 n, .int .i64 each] (.int .i64 (ritems l n each)) := by
 intro σ
 have hll := len_le_bulks l
 refine Tri.of_awp mixed Tryz.func84 rfl (by kernel_rfl) (by kernel_rfl) (by simp [Tryz.ntmps84]) Tryz.results84 ?_
 simp -dsimp only [↓bp, bq, br, seval, tbRefE]
 refine loop_keep mixed (fun k e => ∃ (i : Nat) (m : Int), i <= l.length /\ k = l.length - i /\ e 7 = .int .i64 i /\ e 1 = .int .i64 m /\ 0 <= m /\ m <= n + 3 * bulks (l.take i) /\ ritems (l.drop i) m each = ritems l n each) l.length
  ⟨0, n, by omega, by omega, by simp -dsimp only [↓bp, bq, br, seval, tbRefE]; first | done | rfl, by simp -dsimp only [↓bp, bq, br, seval, tbRefE]; first | done | rfl, hn0, by simp [bulks], by rw [List.drop_zero]⟩ ?_
 rintro k v ⟨i, m, hi, rfl, h7, h1, hm0, hm1, hz⟩
 have hbt := bulks_take l i
 simp -dsimp only [↓bp, bq, br, seval, tbRefE] at h7 h1
 simp -dsimp only [↓bp, bq, br, seval, tbRefE, h7, h1]
 refine condW_dec (fun hlt => ?_) (fun hge => ?_)
 ·obtain ⟨x, hx⟩ : ∃ x, l[i]? = some x := ⟨_, List.getElem?_eq_getElem (by omega)⟩
  have hxm : x ∈ l := List.mem_of_getElem? hx
  have hxb := bulk_mem hxm
  have hxs := rsize_le x
  have hdr := drop_get _ _ _ hx
  simp -dsimp only [↓bp, bq, br, seval, tbRefE, h7, h1, hx, hlt]
  refine Pure.use (h x hxm) ?_
  simp -dsimp only [↓bp, bq, br, seval, tbRefE, h7, h1, hx, hlt]
  refine condW_dec (fun hneg => ?_) (fun hpos => ?_)
  ·simp -dsimp only [↓bp, bq, br, seval, tbRefE, h7, h1, hx, hlt]
   refine finish_pure ?_ (AS.le.refl σ)
   rw [<- hz, hdr, ritems, if_pos hneg]
  ·have w1 : IntKind.i64.wrap (m + rsize x) = m + rsize x := wrap_nat (by omega) (by omega)
   have w2 : IntKind.i64.wrap (m + rsize x + each) = m + rsize x + each := wrap_nat (by omega) (by omega)
   simp -dsimp only [↓bp, bq, br, seval, tbRefE, h7, h1, hx, hlt, w1, w2]
   refine ⟨l.length - (i + 1), by omega, i + 1, m + rsize x + each, by omega, rfl, ?_, rfl, by omega, ?_, ?_⟩
   ·rw [wrap_nat (by omega) (by omega)]; rfl
   ·rw [take_succ_get _ _ _ hx, bulks_append]
    simp only [bulks]
    omega
   ·rw [<- hz, hdr, ritems, if_neg hpos]
 ·have : i = l.length := by omega
  subst this
  simp -dsimp only [↓bp, bq, br, seval, tbRefE, h7, h1]
  refine finish_pure ?_ (AS.le.refl σ)
  rw [<- hz, List.drop_length, ritems]
end
section
theorem nil_of {α : Type} {l : List α} (h : (l.length : Int) = 0) : l = [] := List.eq_nil_of_length_eq_zero (by omega)
theorem rsize_none {t : Term} (h1 : ¬ t.knd = 1) (h : (head t).2.2 = false) : rsize t = -1 := by rw [rsize_eq, if_neg h1, if_pos h]
theorem rsize_some {t : Term} (h1 : ¬ t.knd = 1) (h : (head t).2.2 = true) : rsize t = if ritems t.items (head t).1 (head t).2.1 < 0 then -1 else ritems t.tail (ritems t.items (head t).1 (head t).2.1) 0 := by
 rw [rsize_eq, if_neg h1, if_neg (by rw [h]; decide)]
theorem rsize_2 {t : Term} (h : t.knd = 2) : rsize t = if t.neg = false /\ (t.limbs.length : Int) = 0 /\ t.num = 0 /\ (t.items.length : Int) = 0 /\ (t.tail.length : Int) = 0 /\ (t.text.length : Int) <= 40 then 1 else -1 := by
 have hh : head t = (1, 0, bare t true false false false && decide ((t.text.length : Int) <= 40)) := by unfold head; rw [if_pos h]
 split
 ·rename_i hc
  obtain ⟨c1, c2, c3, c4, c5, c6⟩ := hc
  rw [rsize_some (by omega) (by rw [hh]; simp [bare, c1, c2, c3, c4, c5, c6]), hh, nil_of c4, nil_of c5]
  rfl
 ·rename_i hc
  refine rsize_none (by omega) ?_
  rw [hh]
  simp only [bare, Bool.true_or, Bool.false_or, Bool.and_true]
  rw [Bool.eq_false_iff]
  intro hb
  simp only [Bool.and_eq_true, decide_eq_true_eq, Bool.not_eq_true'] at hb
  exact hc ⟨hb.1.1.1.1.1, hb.1.1.1.1.2, hb.1.1.1.2, hb.1.1.2, hb.1.2, hb.2⟩
theorem rsize_35 {t : Term} (h : t.knd = 3 \/ t.knd = 5) : rsize t = if t.neg = false /\ (t.limbs.length : Int) = 0 /\ t.text = [] /\ (t.items.length : Int) = 0 /\ (t.tail.length : Int) = 0 /\ 0 <= t.num /\ t.num <= 1099511627776 then 1 else -1 := by
 have hh : head t = (1, 0, bare t false true false false && decide (0 <= t.num) && decide (t.num <= 1099511627776)) := by unfold head; rw [if_neg (by omega), if_pos h]
 split
 ·rename_i hc
  obtain ⟨c1, c2, c3, c4, c5, c6, c7⟩ := hc
  rw [rsize_some (by omega) (by rw [hh]; simp [bare, c1, c2, c3, c4, c5, c6, c7]), hh, nil_of c4, nil_of c5]
  rfl
 ·rename_i hc
  refine rsize_none (by omega) ?_
  rw [hh]
  simp only [bare, Bool.true_or, Bool.false_or, Bool.and_true]
  rw [Bool.eq_false_iff]
  intro hb
  simp only [Bool.and_eq_true, decide_eq_true_eq, Bool.not_eq_true'] at hb
  exact hc ⟨hb.1.1.1.1.1.1, hb.1.1.1.1.1.2, hb.1.1.1.1.2, hb.1.1.1.2, hb.1.1.2, hb.1.2, hb.2⟩
theorem rsize_4 {t : Term} (h : t.knd = 4) : rsize t = if t.neg = false /\ (t.limbs.length : Int) = 0 /\ t.text = [] /\ (t.tail.length : Int) = 0 /\ 0 <= t.num /\ t.num <= 16384 then ritems t.items 2 0 else -1 := by
 have hh : head t = (2, 0, bare t false true true false && decide (0 <= t.num) && decide (t.num <= 16384)) := by unfold head; rw [if_neg (by omega), if_neg (by omega), if_pos h]
 split
 ·rename_i hc
  obtain ⟨c1, c2, c3, c5, c6, c7⟩ := hc
  have hr := ritems_le t.items 0 (by omega) (by omega) (fun x _ => rsize_le x) 2 (by omega)
  rw [rsize_some (by omega) (by rw [hh]; simp [bare, c1, c2, c3, c5, c6, c7]), hh, nil_of c5]
  simp only [ritems]
  split <;> omega
 ·rename_i hc
  refine rsize_none (by omega) ?_
  rw [hh]
  simp only [bare, Bool.true_or, Bool.false_or, Bool.and_true]
  rw [Bool.eq_false_iff]
  intro hb
  simp only [Bool.and_eq_true, decide_eq_true_eq, Bool.not_eq_true'] at hb
  exact hc ⟨hb.1.1.1.1.1, hb.1.1.1.1.2, hb.1.1.1.2, hb.1.1.2, hb.1.2, hb.2⟩
theorem rsize_6 {t : Term} (h : t.knd = 6) : rsize t = if t.neg = false /\ (t.limbs.length : Int) = 0 /\ t.text = [] /\ (t.tail.length : Int) = 0 /\ t.num = 0 then ritems t.items 1 0 else -1 := by
 have hh : head t = (1, 0, bare t false false true false) := by unfold head; rw [if_neg (by omega), if_neg (by omega), if_neg (by omega), if_pos h]
 split
 ·rename_i hc
  obtain ⟨c1, c2, c3, c5, c6⟩ := hc
  have hr := ritems_le t.items 0 (by omega) (by omega) (fun x _ => rsize_le x) 1 (by omega)
  rw [rsize_some (by omega) (by rw [hh]; simp [bare, c1, c2, c3, c5, c6]), hh, nil_of c5]
  simp only [ritems]
  split <;> omega
 ·rename_i hc
  refine rsize_none (by omega) ?_
  rw [hh]
  simp only [bare, Bool.true_or, Bool.false_or, Bool.and_true]
  rw [Bool.eq_false_iff]
  intro hb
  simp only [Bool.and_eq_true, decide_eq_true_eq, Bool.not_eq_true'] at hb
  exact hc ⟨hb.1.1.1.1, hb.1.1.1.2, hb.1.1.2, hb.2, hb.1.2⟩
theorem rsize_0 {t : Term} (h : ¬ (1 <= t.knd /\ t.knd <= 7)) : rsize t = -1 := by
 refine rsize_none (by omega) ?_
 unfold head
 rw [if_neg (by omega), if_neg (by omega), if_neg (by omega), if_neg (by omega), if_neg (by omega)]
theorem rsize_7 {t : Term} (h : t.knd = 7) : rsize t = if t.neg = false /\ (t.limbs.length : Int) = 0 /\ t.text = [] /\ t.num = 0 /\ (t.tail.length : Int) <= (if (t.items.length : Int) < 1 then (t.items.length : Int) else 1) /\ (t.tail.all fun x => decide (x.knd ≠ 7)) = true then (if ritems t.items 1 1 < 0 then -1 else ritems t.tail (ritems t.items 1 1) 0) else -1 := by
 have hh : head t = (1, 1, bare t false false true true && decide ((t.tail.length : Int) <= if (t.items.length : Int) < 1 then (t.items.length : Int) else 1) && t.tail.all fun x => decide (x.knd ≠ 7)) := by unfold head; rw [if_neg (by omega), if_neg (by omega), if_neg (by omega), if_neg (by omega), if_pos h]
 by_cases hc : t.neg = false /\ (t.limbs.length : Int) = 0 /\ t.text = [] /\ t.num = 0 /\ (t.tail.length : Int) <= (if (t.items.length : Int) < 1 then (t.items.length : Int) else 1) /\ (t.tail.all fun x => decide (x.knd ≠ 7)) = true
 ·rw [if_pos hc]
  obtain ⟨c1, c2, c3, c4, c5, c6⟩ := hc
  rw [rsize_some (by omega) (by rw [hh]; simp only [bare, c1, c2, c3, c4, decide_eq_true c5, c6]; rfl), hh]
 ·rw [if_neg hc]
  refine rsize_none (by omega) ?_
  rw [hh]
  simp only [bare, Bool.true_or, Bool.false_or, Bool.and_true]
  rw [Bool.eq_false_iff]
  intro hb
  simp only [Bool.and_eq_true, decide_eq_true_eq, Bool.not_eq_true'] at hb
  exact hc ⟨hb.1.1.1.1.1, hb.1.1.1.1.2, hb.1.1.1.2, hb.1.1.2, hb.1.2, hb.2⟩
end
set_option maxRecDepth 20000
section
def tbRefA := And.intro (And.intro (And.intro (And.intro @tf3 (And.intro @tf4 @tf5)) (And.intro @tf47 (And.intro @tf128 @tf9))) (And.intro (And.intro @tf23 (And.intro @tf22 @tf24)) (And.intro (And.intro @tf26 @tf129) (And.intro @tf106 @Term.flat_enc)))) (And.intro (And.intro (And.intro @Term.isv_enc (And.intro @Term.fold_enc @isv_encs)) (And.intro @flat_encs (And.intro @len_encs @ix_encs))) (And.intro (And.intro @ix_encs' (And.intro @isv_lims @flat_lims)) (And.intro (And.intro @len_lims @ix_lims) (And.intro @ix_lims' @flat_limA))))
variable (G : Nat -> AV)
def bools (l : List Bool) : AV := .sl .none (l.map AV.bool) []
instance {l : List Bool} : NotBs (bools l) := ⟨fun _ _ _ _ h => by unfold bools at h; cases h⟩
theorem isv_bools (l : List Bool) : isv (bools l) = true := rfl
theorem flat_bools (l : List Bool) : flat (bools l) = [bools l] := rfl
theorem len_bools {P : Program} {t : TypeId} (l : List Bool) : ablt P .len #[t] [bools l] = if (el P t).isSome then some (.int .i64 l.length) else none := by
 simp [bools, l_sl]
theorem tbBE : el Tryz.prog 129 = some 4 := tf129.2.2.2.1
theorem slim_none (g : Gh) (xs ys sp : List AV) : slim (.sl .none xs []) (.sl g ys sp) = .sl g ys [] := rfl
def atB (l : List Bool) (i : Nat) : Bool := l[i]?.getD false
def cutN (l : List Bool) : Nat -> Nat
 | 0 => 0
 | n + 1 => if atB l n = false then cutN l n else n + 1
def cutB (l : List Bool) : List Bool := l.take (cutN l l.length)
theorem cutN_off (l : List Bool) : ∀ n i, i < n -> cutN l n <= i -> atB l i = false
 | 0, i, h, _ => by omega
 | n + 1, i, h, h2 => by
  simp only [cutN] at h2
  split at h2
  ·rename_i h3
   by_cases e : i = n
   ·subst e; exact h3
   ·exact cutN_off l n i (by omega) h2
  ·omega
theorem at_cut (l : List Bool) (i : Nat) : atB (cutB l) i = atB l i := by
 unfold cutB
 by_cases h : i < cutN l l.length
 ·unfold atB; rw [List.getElem?_take, if_pos h]
 ·have e : atB (l.take (cutN l l.length)) i = false := by unfold atB; rw [List.getElem?_take, if_neg h]; rfl
  rw [e]
  by_cases h2 : i < l.length
  ·exact (cutN_off l _ i h2 (by omega)).symm
  ·unfold atB; rw [List.getElem?_eq_none (by omega)]; rfl
theorem cutB_len (l : List Bool) : (cutB l).length <= l.length := by unfold cutB; rw [List.length_take]; omega
theorem cut_pure (l : List Bool) (hl : l.length <= 1000000000) : Pure Tryz.prog G 152 [bools l] (bools (cutB l)) := by
 unfold bools
 refine Pure.of_le fun σ => ?_
 refine Tri.of_awp mixed Tryz.func152 rfl (by kernel_rfl) (by kernel_rfl) (by simp [Tryz.ntmps152]) Tryz.results152 ?_
 simp -dsimp only [↓bp, bq, br, seval, tbRefA]
 refine loop_keep mixed (fun n e => n <= l.length /\ e 3 = .int .i64 (n : Int) /\ cutN l n = cutN l l.length) l.length ⟨Nat.le_refl _, by simp -dsimp only [↓bp, bq, br, seval, tbRefA]; first | done | rfl, rfl⟩ ?_
 rintro n v ⟨hn, h3, hz⟩
 simp -dsimp only [↓bp, bq, br, seval, tbRefA] at h3
 simp -dsimp only [↓bp, bq, br, seval, tbRefA, h3]
 cases n with
 | zero =>
  have e0 : ((0 : Nat) : Int) = 0 := rfl
  have hN : cutN l l.length = 0 := by rw [<- hz]; rfl
  simp -dsimp only [↓bp, bq, br, seval, tbRefA, h3, e0]
  try refine slW_bo ?_
  refine piece (l := 0) (h := 0) tbBE tf4.1 rfl (by simp [abnd]) (by omega) (by simp) (fun a ha => ?_) (fun g' => ?_)
  ·rw [List.append_nil] at ha
   obtain ⟨i, _, rfl⟩ := List.mem_map.1 ha
   rfl
  ·have ec : ((l.map AV.bool ++ []).take 0).drop 0 = (cutB l).map AV.bool := by unfold cutB; rw [hN]; simp
   simp only [ec, slim_none]
   simp -dsimp only [↓bp, bq, br, seval, tbRefA, h3, e0]
   exact finish_le Le.gh (AS.le.refl σ)
 | succ n =>
  obtain ⟨k, hk⟩ : ∃ k, l[n]? = some k := ⟨_, List.getElem?_eq_getElem (by omega)⟩
  have hw : IntKind.i64.wrap (((n + 1 : Nat) : Int) - 1) = (n : Int) := by rw [wrap_nat (by omega) (by omega)]; omega
  have hp : (0 < ((n + 1 : Nat) : Int)) = True := eq_true (by omega)
  have ha : atB l n = k := by unfold atB; rw [hk]; rfl
  cases k
  ·simp -dsimp only [↓bp, bq, br, seval, tbRefA, h3, hw, hp, hk]
   refine ⟨n, by omega, by omega, rfl, ?_⟩
   rw [<- hz]; simp only [cutN]; rw [if_pos ha]
  ·have hN : cutN l l.length = n + 1 := by rw [<- hz]; simp only [cutN]; rw [if_neg (by simp [ha])]
   simp -dsimp only [↓bp, bq, br, seval, tbRefA, h3, hw, hp, hk]
   try refine slW_bo ?_
   refine piece (l := 0) (h := n + 1) tbBE tf4.1 rfl (by simp [abnd]; omega) (by omega) (by simp; omega) (fun a ha => ?_) (fun g' => ?_)
   ·rw [List.append_nil] at ha
    obtain ⟨i, _, rfl⟩ := List.mem_map.1 ha
    rfl
   ·have ec : ((l.map AV.bool ++ []).take (n + 1)).drop 0 = (cutB l).map AV.bool := by unfold cutB; rw [hN]; simp
    simp only [ec, slim_none]
    simp -dsimp only [↓bp, bq, br, seval, tbRefA, h3]
    exact finish_le Le.gh (AS.le.refl σ)
def bel (x y : List Bool) : Nat -> Bool
 | 0 => false
 | n + 1 => if atB x n = atB y n then bel x y n else atB y n
def below (x y : List Bool) : Bool := bel x y (max x.length y.length)
theorem tbB : aelt Tryz.prog 129 = some (4, 1, 1) := tf129.2.2.2.2.2.2
end
set_option maxRecDepth 20000
section
end
set_option maxRecDepth 20000
section
def tbRefC0 := And.intro (And.intro (And.intro (And.intro @tf3 (And.intro @tf4 @tf5)) (And.intro (And.intro @tf47 @tf128) (And.intro @tf9 @tf23))) (And.intro (And.intro @tf22 (And.intro @tf24 @tf26)) (And.intro (And.intro @tf129 @tf106) (And.intro @Term.flat_enc @Term.isv_enc)))) (And.intro (And.intro (And.intro @Term.fold_enc (And.intro @isv_encs @flat_encs)) (And.intro (And.intro @len_encs @ix_encs) (And.intro @ix_encs' @isv_lims))) (And.intro (And.intro (And.intro @flat_lims @len_lims) (And.intro @ix_lims @ix_lims')) (And.intro (And.intro @flat_limA @isv_bools) (And.intro @flat_bools @len_bools))))
variable (G : Nat -> AV)
set_option maxHeartbeats 4000000 in
theorem rright_pure (t : Term) (hb : t.bulk <= 1000000000) : Pure Tryz.prog G 83 [t.enc] (.bool (wr t)) := by
 have h1 := len_limbs t
 intro σ
 by_cases hl : (t.limbs.length : Int) = 0
 ·have hl1 : ¬ 0 < (t.limbs.length : Int) := by omega
  have hl2 : ¬ (0 : Int) > 0 := by omega
  have e : wr t = (decide (t.knd = 1) && decide (t.text = []) && decide (t.num = 0) && decide ((t.items.length : Int) = 0) && decide ((t.tail.length : Int) = 0) && !t.neg) := by
   have e0 : decide ((t.items.length : Int) + t.tail.length = 0) = (decide ((t.items.length : Int) = 0) && decide ((t.tail.length : Int) = 0)) := by
    rw [Bool.eq_iff_iff]; simp only [Bool.and_eq_true, decide_eq_true_eq]; omega
   unfold wr
   rw [e0, hl]
   simp only [show decide ((0 : Int) <= 32) = true from rfl, show decide ((0 : Int) = 0) = true from rfl, show decide ((0 : Int) < 0) = false from rfl, Bool.and_true, Bool.true_and, Bool.false_and, Bool.or_false, Bool.and_assoc, decide_true]
  rw [e]
  clear h1 hb e
  refine Tri.of_awp mixed Tryz.func83 rfl (by kernel_rfl) (by kernel_rfl) (by simp [Tryz.ntmps83]) Tryz.results83 ?_
  repeat' (first | refine xs ?_ ?_ <;> intros | (refine wn ?_; intro bx hbx; try simp only [fb] at hbx) | refine wj ?_ | simp -dsimp only [↓bp, bq, br, seval, tbRefC0, limA, *] | refine wz ?_ | fail)
  all_goals (try simp_all)
 ·have hl1 : 0 < (t.limbs.length : Int) := by omega
  have hw2 : IntKind.i64.wrap ((t.limbs.length : Int) - 1) = ((t.limbs.length - 1 : Nat) : Int) := by rw [wrap_nat (by omega) (by omega)]; omega
  obtain ⟨x, hx⟩ : ∃ x, t.limbs[t.limbs.length - 1]? = some x := ⟨_, List.getElem?_eq_getElem (by omega)⟩
  have hlo : lastOk t.limbs = decide ((x.toNat : Int) ≠ 0) := by simp [lastOk, hx]
  have e : wr t = (decide (t.knd = 1) && decide (t.text = []) && decide (t.num = 0) && decide ((t.items.length : Int) = 0) && decide ((t.tail.length : Int) = 0) && decide ((t.limbs.length : Int) <= 32) && decide ((x.toNat : Int) ≠ 0)) := by
   unfold wr
   rw [hlo, Bool.eq_iff_iff]
   simp only [Bool.and_eq_true, decide_eq_true_eq, Bool.or_eq_true, hl, hl1, false_and, false_or, true_and]
   constructor
   ·rintro ⟨⟨⟨⟨⟨a, b⟩, c⟩, d⟩, f⟩, g⟩; exact ⟨⟨⟨⟨⟨⟨a, b⟩, c⟩, by omega⟩, by omega⟩, f⟩, g⟩
   ·rintro ⟨⟨⟨⟨⟨⟨a, b⟩, c⟩, d⟩, d2⟩, f⟩, g⟩; exact ⟨⟨⟨⟨⟨a, b⟩, c⟩, by omega⟩, f⟩, g⟩
  rw [e]
  clear h1 hb e hlo
  refine Tri.of_awp mixed Tryz.func83 rfl (by kernel_rfl) (by kernel_rfl) (by simp [Tryz.ntmps83]) Tryz.results83 ?_
  repeat' (first | refine xs ?_ ?_ <;> intros | (refine wn ?_; intro bx hbx; try simp only [fb] at hbx) | refine wj ?_ | simp -dsimp only [↓bp, bq, br, seval, tbRefC0, limA, *] | refine wz ?_ | fail)
  all_goals (try simp_all)
end
set_option maxRecDepth 20000
section
def tbRefH := And.intro (And.intro (And.intro (And.intro @tf3 @tf4) (And.intro @tf5 @tf47)) (And.intro (And.intro @tf9 @tf23) (And.intro @tf22 (And.intro @tf24 @tf26)))) (And.intro (And.intro (And.intro @Term.flat_enc @Term.isv_enc) (And.intro @Term.fold_enc @isv_encs)) (And.intro (And.intro @flat_encs @len_encs) (And.intro @isv_lims (And.intro @flat_lims @len_lims))))
def Hid (p : Prop) : Prop := p
variable (G : Nat -> AV)
theorem rsz_1 (t : Term) (hb : t.bulk <= 1000000000) (hk : t.knd = 1) : Pure Tryz.prog G 55 [t.enc] (.int .i64 (rsize t)) := by
 have hr := rright_pure G t hb
 have hl := len_limbs t
 have e : rsize t = if wr t = true then (1 + t.limbs.length : Int) else -1 := by rw [rsize_eq, if_pos hk]
 have hw1 : IntKind.i64.wrap (1 + (t.limbs.length : Int)) = 1 + t.limbs.length := wrap_nat (by omega) (by omega)
 have k1 := eq_true hk
 clear hk
 rw [e]
 clear e
 generalize wr t = W at *
 intro σ
 cases W
 all_goals
  refine Tri.of_awp mixed Tryz.func55 rfl (by kernel_rfl) (by kernel_rfl) (by simp [Tryz.ntmps55]) Tryz.results55 ?_
  repeat' (first | refine xs ?_ ?_ <;> intros | (refine wn ?_; intro bx hbx; try simp only [fb] at hbx) | refine wp hr ?_ | refine wj ?_ | simp -dsimp only [↓bp, bq, br, seval, tbRefH, if_true, if_false, *] | refine wz ?_ | fail)
 all_goals rfl
set_option maxHeartbeats 4000000 in
theorem rsz_2 (t : Term) (hb : t.bulk <= 1000000000) (hk : t.knd = 2) : Pure Tryz.prog G 55 [t.enc] (.int .i64 (rsize t)) := by
 have e : Hid _ := rsize_2 hk
 have k1 := eq_false (show ¬ t.knd = 1 by omega)
 have k7 := eq_false (show ¬ t.knd = 7 by omega)
 have k2 := eq_true hk
 clear hk
 generalize rsize t = r at *
 intro σ
 clear hb
 refine Tri.of_awp mixed Tryz.func55 rfl (by kernel_rfl) (by kernel_rfl) (by simp [Tryz.ntmps55]) Tryz.results55 ?_
 repeat' (first | refine xs ?_ ?_ <;> intros | (refine wn ?_; intro bx hbx; try simp only [fb] at hbx) | refine wj ?_ | simp -dsimp only [↓bp, bq, br, seval, tbRefH, *] | refine wz ?_ | fail)
 all_goals
  unfold Hid at e
  rw [e]
  split
  ·rename_i hc
   obtain ⟨c1, c2, c3, c4, c5, c6⟩ := hc
   first | rfl | (exfalso; first | omega | (simp_all; done))
  ·rename_i hc
   first | rfl | (exfalso; apply hc; refine ⟨?_, ?_, ?_, ?_, ?_, ?_⟩ <;> first | assumption | omega | (simp_all; done))
end
set_option maxRecDepth 20000
section
def tbRefH2 := And.intro (And.intro (And.intro (And.intro @tf3 @tf4) (And.intro @tf5 @tf47)) (And.intro (And.intro @tf9 @tf23) (And.intro @tf22 (And.intro @tf24 @tf26)))) (And.intro (And.intro (And.intro @Term.flat_enc @Term.isv_enc) (And.intro @Term.fold_enc @isv_encs)) (And.intro (And.intro @flat_encs @len_encs) (And.intro @isv_lims (And.intro @flat_lims @len_lims))))
variable (G : Nat -> AV)
set_option maxHeartbeats 4000000 in
theorem rsz_3 (t : Term) (hb : t.bulk <= 1000000000) (hk : t.knd = 3) : Pure Tryz.prog G 55 [t.enc] (.int .i64 (rsize t)) := by
 have e : Hid _ := rsize_35 (.inl hk)
 have k1 := eq_false (show ¬ t.knd = 1 by omega)
 have k2 := eq_false (show ¬ t.knd = 2 by omega)
 have k4 := eq_false (show ¬ t.knd = 4 by omega)
 have k5 := eq_false (show ¬ t.knd = 5 by omega)
 have k6 := eq_false (show ¬ t.knd = 6 by omega)
 have k7 := eq_false (show ¬ t.knd = 7 by omega)
 have k3 := eq_true hk
 clear hk
 generalize rsize t = r at *
 intro σ
 clear hb
 refine Tri.of_awp mixed Tryz.func55 rfl (by kernel_rfl) (by kernel_rfl) (by simp [Tryz.ntmps55]) Tryz.results55 ?_
 repeat' (first | refine xs ?_ ?_ <;> intros | (refine wn ?_; intro bx hbx; try simp only [fb] at hbx) | refine wj ?_ | simp -dsimp only [↓bp, bq, br, seval, tbRefH2, *] | refine wz ?_ | fail)
 all_goals
  unfold Hid at e
  rw [e]
  split
  ·rename_i hc
   obtain ⟨c1, c2, c3, c4, c5, c6, c7⟩ := hc
   first | rfl | (exfalso; first | omega | (simp_all; done))
  ·rename_i hc
   first | rfl | (exfalso; apply hc; refine ⟨?_, ?_, ?_, ?_, ?_, ?_, ?_⟩ <;> first | assumption | omega | (simp_all; done))
set_option maxHeartbeats 4000000 in
theorem rsz_5 (t : Term) (hb : t.bulk <= 1000000000) (hk : t.knd = 5) : Pure Tryz.prog G 55 [t.enc] (.int .i64 (rsize t)) := by
 have e : Hid _ := rsize_35 (.inr hk)
 have k1 := eq_false (show ¬ t.knd = 1 by omega)
 have k2 := eq_false (show ¬ t.knd = 2 by omega)
 have k3 := eq_false (show ¬ t.knd = 3 by omega)
 have k4 := eq_false (show ¬ t.knd = 4 by omega)
 have k6 := eq_false (show ¬ t.knd = 6 by omega)
 have k7 := eq_false (show ¬ t.knd = 7 by omega)
 have k5 := eq_true hk
 clear hk
 generalize rsize t = r at *
 intro σ
 clear hb
 refine Tri.of_awp mixed Tryz.func55 rfl (by kernel_rfl) (by kernel_rfl) (by simp [Tryz.ntmps55]) Tryz.results55 ?_
 repeat' (first | refine xs ?_ ?_ <;> intros | (refine wn ?_; intro bx hbx; try simp only [fb] at hbx) | refine wj ?_ | simp -dsimp only [↓bp, bq, br, seval, tbRefH2, *] | refine wz ?_ | fail)
 all_goals
  unfold Hid at e
  rw [e]
  split
  ·rename_i hc
   obtain ⟨c1, c2, c3, c4, c5, c6, c7⟩ := hc
   first | rfl | (exfalso; first | omega | (simp_all; done))
  ·rename_i hc
   first | rfl | (exfalso; apply hc; refine ⟨?_, ?_, ?_, ?_, ?_, ?_, ?_⟩ <;> first | assumption | omega | (simp_all; done))
set_option maxHeartbeats 4000000 in
theorem rsz_4 (t : Term) (hb : t.bulk <= 1000000000) (hk : t.knd = 4) (hit : ∀ x, x ∈ t.items -> Pure Tryz.prog G 55 [x.enc] (.int .i64 (rsize x))) : Pure Tryz.prog G 55 [t.enc] (.int .i64 (rsize t)) := by
 have e : Hid _ := rsize_4 hk
 have hbe := t.bulk_eq
 have hi := items_pure G t.items 2 0 (by omega) (by omega) (by omega) (by omega) (by omega) hit
 clear hbe hit
 generalize ritems t.items 2 0 = s at *
 have k1 := eq_false (show ¬ t.knd = 1 by omega)
 have k2 := eq_false (show ¬ t.knd = 2 by omega)
 have k3 := eq_false (show ¬ t.knd = 3 by omega)
 have k5 := eq_false (show ¬ t.knd = 5 by omega)
 have k6 := eq_false (show ¬ t.knd = 6 by omega)
 have k7 := eq_false (show ¬ t.knd = 7 by omega)
 have k4 := eq_true hk
 clear hk
 generalize rsize t = r at *
 intro σ
 clear hb
 refine Tri.of_awp mixed Tryz.func55 rfl (by kernel_rfl) (by kernel_rfl) (by simp [Tryz.ntmps55]) Tryz.results55 ?_
 repeat' (first | refine xs ?_ ?_ <;> intros | (refine wn ?_; intro bx hbx; try simp only [fb] at hbx) | refine wp hi ?_ | refine wj ?_ | simp -dsimp only [↓bp, bq, br, seval, tbRefH2, *] | refine wz ?_ | fail)
 all_goals
  unfold Hid at e
  rw [e]
  split
  ·rename_i hc
   obtain ⟨c1, c2, c3, c4, c5, c6⟩ := hc
   first | rfl | (exfalso; first | omega | (simp_all; done))
  ·rename_i hc
   first | rfl | (exfalso; apply hc; refine ⟨?_, ?_, ?_, ?_, ?_, ?_⟩ <;> first | assumption | omega | (simp_all; done))
set_option maxHeartbeats 4000000 in
theorem rsz_6 (t : Term) (hb : t.bulk <= 1000000000) (hk : t.knd = 6) (hit : ∀ x, x ∈ t.items -> Pure Tryz.prog G 55 [x.enc] (.int .i64 (rsize x))) : Pure Tryz.prog G 55 [t.enc] (.int .i64 (rsize t)) := by
 have e : Hid _ := rsize_6 hk
 have hbe := t.bulk_eq
 have hi := items_pure G t.items 1 0 (by omega) (by omega) (by omega) (by omega) (by omega) hit
 clear hbe hit
 generalize ritems t.items 1 0 = s at *
 have k1 := eq_false (show ¬ t.knd = 1 by omega)
 have k2 := eq_false (show ¬ t.knd = 2 by omega)
 have k3 := eq_false (show ¬ t.knd = 3 by omega)
 have k4 := eq_false (show ¬ t.knd = 4 by omega)
 have k5 := eq_false (show ¬ t.knd = 5 by omega)
 have k7 := eq_false (show ¬ t.knd = 7 by omega)
 have k6 := eq_true hk
 clear hk
 generalize rsize t = r at *
 intro σ
 clear hb
 refine Tri.of_awp mixed Tryz.func55 rfl (by kernel_rfl) (by kernel_rfl) (by simp [Tryz.ntmps55]) Tryz.results55 ?_
 repeat' (first | refine xs ?_ ?_ <;> intros | (refine wn ?_; intro bx hbx; try simp only [fb] at hbx) | refine wp hi ?_ | refine wj ?_ | simp -dsimp only [↓bp, bq, br, seval, tbRefH2, *] | refine wz ?_ | fail)
 all_goals
  unfold Hid at e
  rw [e]
  split
  ·rename_i hc
   obtain ⟨c1, c2, c3, c4, c5⟩ := hc
   first | rfl | (exfalso; first | omega | (simp_all; done))
  ·rename_i hc
   first | rfl | (exfalso; apply hc; refine ⟨?_, ?_, ?_, ?_, ?_⟩ <;> first | assumption | omega | (simp_all; done))
end
set_option maxRecDepth 20000
section
def tbRefH3 := And.intro (And.intro (And.intro (And.intro @tf3 @tf4) (And.intro @tf5 @tf47)) (And.intro (And.intro @tf9 @tf23) (And.intro @tf22 (And.intro @tf24 @tf26)))) (And.intro (And.intro (And.intro @Term.flat_enc @Term.isv_enc) (And.intro @Term.fold_enc @isv_encs)) (And.intro (And.intro @flat_encs @len_encs) (And.intro @isv_lims (And.intro @flat_lims @len_lims))))
variable (G : Nat -> AV)
set_option maxHeartbeats 4000000 in
theorem rsz_7a (t : Term) (hb : t.bulk <= 1000000000) (hk : t.knd = 7) (hit : ∀ x, x ∈ t.items -> Pure Tryz.prog G 55 [x.enc] (.int .i64 (rsize x))) (htt : ∀ x, x ∈ t.tail -> Pure Tryz.prog G 55 [x.enc] (.int .i64 (rsize x))) (hl : t.tail.length = 0) : Pure Tryz.prog G 55 [t.enc] (.int .i64 (rsize t)) := by
 have hbe := t.bulk_eq
 have hi := items_pure G t.items 1 1 (by omega) (by omega) (by omega) (by omega) (by omega) hit
 have hsl := ritems_le t.items 1 (by omega) (by omega) (fun x _ => rsize_le x) 1 (by omega)
 have hj : 0 <= ritems t.items 1 1 -> Pure Tryz.prog G 84 [encs t.tail, .int .i64 (ritems t.items 1 1), .int .i64 0] (.int .i64 (ritems t.tail (ritems t.items 1 1) 0)) := fun h => items_pure G t.tail _ 0 (by omega) (by omega) h (by omega) (by omega) htt
 have e0 : rsize t = if t.neg = false /\ (t.limbs.length : Int) = 0 /\ t.text = [] /\ t.num = 0 then (if ritems t.items 1 1 < 0 then -1 else ritems t.tail (ritems t.items 1 1) 0) else -1 := by
  rw [rsize_7 hk]
  have e1 : t.tail = [] := List.eq_nil_of_length_eq_zero hl
  have e2 : ((t.tail.length : Int) <= (if (t.items.length : Int) < 1 then (t.items.length : Int) else 1)) = True := eq_true (by rw [hl]; split <;> omega)
  have e3 : (t.tail.all fun x => decide (x.knd ≠ 7)) = true := by rw [e1]; rfl
  rw [e3]
  simp only [e2, and_true]
 have k1 := eq_false (show ¬ t.knd = 1 by omega)
 have k2 := eq_false (show ¬ t.knd = 2 by omega)
 have k3 := eq_false (show ¬ t.knd = 3 by omega)
 have k4 := eq_false (show ¬ t.knd = 4 by omega)
 have k5 := eq_false (show ¬ t.knd = 5 by omega)
 have k6 := eq_false (show ¬ t.knd = 6 by omega)
 have k7 := eq_true hk
 have l0 : (t.tail.length : Int) = 0 := by omega
 clear hk hbe hb hit htt hsl hl
 generalize rsize t = r at *
 generalize ritems t.items 1 1 = s at *
 by_cases hs : s < 0
 ·clear hj
  rw [if_pos hs] at e0
  have e : Hid _ := e0
  clear e0
  have hs := eq_true hs
  intro σ
  refine Tri.of_awp mixed Tryz.func55 rfl (by kernel_rfl) (by kernel_rfl) (by simp [Tryz.ntmps55]) Tryz.results55 ?_
  repeat' (first | refine xs ?_ ?_ <;> intros | (refine wn ?_; intro bx hbx; try simp only [fb] at hbx) | refine wp hi ?_ | refine wj ?_ | simp -dsimp only [↓bp, bq, br, seval, tbRefH3, *] | refine wz ?_ | fail)
  all_goals
   unfold Hid at e
   rw [e]
   split
   ·rename_i hc
    obtain ⟨c1, c2, c3, c4⟩ := hc
    first | rfl | (exfalso; first | omega | (simp_all; done))
   ·rename_i hc
    first | rfl | (exfalso; apply hc; refine ⟨?_, ?_, ?_, ?_⟩ <;> first | assumption | omega | (simp_all; done))
 ·have hj := hj (by omega)
  rw [if_neg hs] at e0
  have e : Hid _ := e0
  clear e0
  generalize ritems t.tail s 0 = u at *
  have hs := eq_false hs
  intro σ
  refine Tri.of_awp mixed Tryz.func55 rfl (by kernel_rfl) (by kernel_rfl) (by simp [Tryz.ntmps55]) Tryz.results55 ?_
  repeat' (first | refine xs ?_ ?_ <;> intros | (refine wn ?_; intro bx hbx; try simp only [fb] at hbx) | refine wp hi ?_ | refine wp hj ?_ | refine wj ?_ | simp -dsimp only [↓bp, bq, br, seval, tbRefH3, *] | refine wz ?_ | fail)
  all_goals
   unfold Hid at e
   rw [e]
   split
   ·rename_i hc
    obtain ⟨c1, c2, c3, c4⟩ := hc
    first | rfl | (exfalso; first | omega | (simp_all; done))
   ·rename_i hc
    first | rfl | (exfalso; apply hc; refine ⟨?_, ?_, ?_, ?_⟩ <;> first | assumption | omega | (simp_all; done))
end
set_option maxRecDepth 20000
section
def tbRefH4 := And.intro (And.intro (And.intro (And.intro @tf3 @tf4) (And.intro @tf5 @tf47)) (And.intro (And.intro @tf9 @tf23) (And.intro @tf22 (And.intro @tf24 @tf26)))) (And.intro (And.intro (And.intro @Term.flat_enc @Term.isv_enc) (And.intro @Term.fold_enc @isv_encs)) (And.intro (And.intro @flat_encs @len_encs) (And.intro @isv_lims (And.intro @flat_lims @len_lims))))
variable (G : Nat -> AV)
set_option maxHeartbeats 4000000 in
theorem rsz_0 (t : Term) (hk : ¬ (1 <= t.knd /\ t.knd <= 7)) : Pure Tryz.prog G 55 [t.enc] (.int .i64 (rsize t)) := by
 rw [rsize_0 hk]
 have k1 := eq_false (show ¬ t.knd = 1 by omega)
 have k2 := eq_false (show ¬ t.knd = 2 by omega)
 have k3 := eq_false (show ¬ t.knd = 3 by omega)
 have k4 := eq_false (show ¬ t.knd = 4 by omega)
 have k5 := eq_false (show ¬ t.knd = 5 by omega)
 have k6 := eq_false (show ¬ t.knd = 6 by omega)
 have k7 := eq_false (show ¬ t.knd = 7 by omega)
 clear hk
 intro σ
 refine Tri.of_awp mixed Tryz.func55 rfl (by kernel_rfl) (by kernel_rfl) (by simp [Tryz.ntmps55]) Tryz.results55 ?_
 repeat' (first | refine xs ?_ ?_ <;> intros | (refine wn ?_; intro bx hbx; try simp only [fb] at hbx) | refine wj ?_ | simp -dsimp only [↓bp, bq, br, seval, tbRefH4, *] | refine wz ?_ | fail)
 all_goals rfl
set_option maxHeartbeats 4000000 in
theorem rsz_7c (t : Term) (hk : t.knd = 7) (hl : 1 < (t.tail.length : Int)) : Pure Tryz.prog G 55 [t.enc] (.int .i64 (rsize t)) := by
 have e : rsize t = -1 := by
  rw [rsize_7 hk, if_neg (fun hc => ?_)]
  have := hc.2.2.2.2.1
  split at this <;> omega
 rw [e]
 have k1 := eq_false (show ¬ t.knd = 1 by omega)
 have k2 := eq_false (show ¬ t.knd = 2 by omega)
 have k3 := eq_false (show ¬ t.knd = 3 by omega)
 have k4 := eq_false (show ¬ t.knd = 4 by omega)
 have k5 := eq_false (show ¬ t.knd = 5 by omega)
 have k6 := eq_false (show ¬ t.knd = 6 by omega)
 have k7 := eq_true hk
 have l1 := eq_true hl
 clear hk e hl
 intro σ
 refine Tri.of_awp mixed Tryz.func55 rfl (by kernel_rfl) (by kernel_rfl) (by simp [Tryz.ntmps55]) Tryz.results55 ?_
 repeat' (first | refine xs ?_ ?_ <;> intros | (refine wn ?_; intro bx hbx; try simp only [fb] at hbx) | refine wj ?_ | simp -dsimp only [↓bp, bq, br, seval, tbRefH4, *] | refine wz ?_ | fail)
 all_goals rfl
end
set_option maxRecDepth 20000
section
def tbRefH5 := And.intro (And.intro (And.intro (And.intro @tf3 @tf4) (And.intro @tf5 (And.intro @tf47 @tf9))) (And.intro (And.intro @tf23 @tf22) (And.intro @tf24 (And.intro @tf26 @Term.flat_enc)))) (And.intro (And.intro (And.intro @Term.isv_enc @Term.fold_enc) (And.intro @isv_encs (And.intro @flat_encs @len_encs))) (And.intro (And.intro @ix_encs @ix_encs') (And.intro @isv_lims (And.intro @flat_lims @len_lims))))
variable (G : Nat -> AV)
set_option maxHeartbeats 4000000 in
theorem rsz_7b1 (t x : Term) (s u : Int) (k1 : (t.knd = 1) = False) (k2 : (t.knd = 2) = False) (k3 : (t.knd = 3) = False) (k4 : (t.knd = 4) = False) (k5 : (t.knd = 5) = False) (k6 : (t.knd = 6) = False) (k7 : (t.knd = 7) = True) (l0 : (t.tail.length : Int) = 1) (hx : t.tail[0]? = some x) (hi : Pure Tryz.prog G 84 [encs t.items, .int .i64 1, .int .i64 1] (.int .i64 s)) (hs : (s < 0) = True) : Pure Tryz.prog G 55 [t.enc] (.int .i64 (-1)) := by
 intro σ
 refine Tri.of_awp mixed Tryz.func55 rfl (by kernel_rfl) (by kernel_rfl) (by simp [Tryz.ntmps55]) Tryz.results55 ?_
 repeat' (first | refine xs ?_ ?_ <;> intros | (refine wn ?_; intro bx hbx; try simp only [fb] at hbx) | refine wp hi ?_ | refine wj ?_ | simp -dsimp only [↓bp, bq, br, seval, tbRefH5, *] | refine wz ?_ | fail)
 all_goals rfl
set_option maxHeartbeats 4000000 in
theorem rsz_7b2 (t x : Term) (s u : Int) (k1 : (t.knd = 1) = False) (k2 : (t.knd = 2) = False) (k3 : (t.knd = 3) = False) (k4 : (t.knd = 4) = False) (k5 : (t.knd = 5) = False) (k6 : (t.knd = 6) = False) (k7 : (t.knd = 7) = True) (l0 : (t.tail.length : Int) = 1) (hx : t.tail[0]? = some x) (hi : Pure Tryz.prog G 84 [encs t.items, .int .i64 1, .int .i64 1] (.int .i64 s)) (hj : Pure Tryz.prog G 84 [encs t.tail, .int .i64 s, .int .i64 0] (.int .i64 u)) (hs : (s < 0) = False) (x7 : (x.knd = 7) = True) : Pure Tryz.prog G 55 [t.enc] (.int .i64 (-1)) := by
 intro σ
 refine Tri.of_awp mixed Tryz.func55 rfl (by kernel_rfl) (by kernel_rfl) (by simp [Tryz.ntmps55]) Tryz.results55 ?_
 repeat' (first | refine xs ?_ ?_ <;> intros | (refine wn ?_; intro bx hbx; try simp only [fb] at hbx) | refine wp hi ?_ | refine wp hj ?_ | refine wj ?_ | simp -dsimp only [↓bp, bq, br, seval, tbRefH5, *] | refine wz ?_ | fail)
 all_goals rfl
set_option maxHeartbeats 4000000 in
theorem rsz_7b3 (t x : Term) (s u : Int) (k1 : (t.knd = 1) = False) (k2 : (t.knd = 2) = False) (k3 : (t.knd = 3) = False) (k4 : (t.knd = 4) = False) (k5 : (t.knd = 5) = False) (k6 : (t.knd = 6) = False) (k7 : (t.knd = 7) = True) (l0 : (t.tail.length : Int) = 1) (hx : t.tail[0]? = some x) (hi : Pure Tryz.prog G 84 [encs t.items, .int .i64 1, .int .i64 1] (.int .i64 s)) (hj : Pure Tryz.prog G 84 [encs t.tail, .int .i64 s, .int .i64 0] (.int .i64 u)) (hs : (s < 0) = False) (x7 : (x.knd = 7) = False) (c1 : t.neg = false) (c2' : (0 < (t.limbs.length : Int)) = False) (c2 : ((t.limbs.length : Int) = 0) = True) (c3 : (t.text = []) = True) (c4 : (t.num = 0) = True) (c5 : ((t.items.length : Int) = 0) = False) : Pure Tryz.prog G 55 [t.enc] (.int .i64 u) := by
 intro σ
 refine Tri.of_awp mixed Tryz.func55 rfl (by kernel_rfl) (by kernel_rfl) (by simp [Tryz.ntmps55]) Tryz.results55 ?_
 repeat' (first | refine xs ?_ ?_ <;> intros | (refine wn ?_; intro bx hbx; try simp only [fb] at hbx) | refine wp hi ?_ | refine wp hj ?_ | refine wj ?_ | simp -dsimp only [↓bp, bq, br, seval, tbRefH5, *] | refine wz ?_ | fail)
 all_goals rfl
set_option maxHeartbeats 4000000 in
theorem rsz_7b4 (t x : Term) (s u : Int) (k1 : (t.knd = 1) = False) (k2 : (t.knd = 2) = False) (k3 : (t.knd = 3) = False) (k4 : (t.knd = 4) = False) (k5 : (t.knd = 5) = False) (k6 : (t.knd = 6) = False) (k7 : (t.knd = 7) = True) (l0 : (t.tail.length : Int) = 1) (hx : t.tail[0]? = some x) (hi : Pure Tryz.prog G 84 [encs t.items, .int .i64 1, .int .i64 1] (.int .i64 s)) (hj : Pure Tryz.prog G 84 [encs t.tail, .int .i64 s, .int .i64 0] (.int .i64 u)) (hs : (s < 0) = False) (x7 : (x.knd = 7) = False) (hc : Hid (¬ (t.neg = false /\ (t.limbs.length : Int) = 0 /\ t.text = [] /\ t.num = 0 /\ ¬ (t.items.length : Int) = 0))) : Pure Tryz.prog G 55 [t.enc] (.int .i64 (-1)) := by
 intro σ
 refine Tri.of_awp mixed Tryz.func55 rfl (by kernel_rfl) (by kernel_rfl) (by simp [Tryz.ntmps55]) Tryz.results55 ?_
 repeat' (first | refine xs ?_ ?_ <;> intros | (refine wn ?_; intro bx hbx; try simp only [fb] at hbx) | refine wp hi ?_ | refine wp hj ?_ | refine wj ?_ | simp -dsimp only [↓bp, bq, br, seval, tbRefH5, *] | refine wz ?_ | fail)
 all_goals first | rfl | (exfalso; unfold Hid at hc; apply hc; refine ⟨?_, ?_, ?_, ?_, ?_⟩ <;> first | assumption | omega | (simp_all; done))
set_option maxHeartbeats 4000000 in
theorem rsz_7b (t : Term) (hb : t.bulk <= 1000000000) (hk : t.knd = 7) (hit : ∀ x, x ∈ t.items -> Pure Tryz.prog G 55 [x.enc] (.int .i64 (rsize x))) (htt : ∀ x, x ∈ t.tail -> Pure Tryz.prog G 55 [x.enc] (.int .i64 (rsize x))) (x : Term) (hx : t.tail[0]? = some x) (hl : t.tail.length = 1) : Pure Tryz.prog G 55 [t.enc] (.int .i64 (rsize t)) := by
 have hbe := t.bulk_eq
 have hi := items_pure G t.items 1 1 (by omega) (by omega) (by omega) (by omega) (by omega) hit
 have hsl := ritems_le t.items 1 (by omega) (by omega) (fun x _ => rsize_le x) 1 (by omega)
 have hj : 0 <= ritems t.items 1 1 -> Pure Tryz.prog G 84 [encs t.tail, .int .i64 (ritems t.items 1 1), .int .i64 0] (.int .i64 (ritems t.tail (ritems t.items 1 1) 0)) := fun h => items_pure G t.tail _ 0 (by omega) (by omega) h (by omega) (by omega) htt
 have e0 : rsize t = if t.neg = false /\ (t.limbs.length : Int) = 0 /\ t.text = [] /\ t.num = 0 /\ ¬ (t.items.length : Int) = 0 /\ ¬ x.knd = 7 then (if ritems t.items 1 1 < 0 then -1 else ritems t.tail (ritems t.items 1 1) 0) else -1 := by
  rw [rsize_7 hk]
  have e1 : t.tail = [x] := by
   cases ht : t.tail with
   | nil => rw [ht] at hl; simp at hl
   | cons y l => rw [ht] at hl hx; simp at hl hx; rw [hl, hx]
  have e2 : ((t.tail.length : Int) <= (if (t.items.length : Int) < 1 then (t.items.length : Int) else 1)) = (¬ (t.items.length : Int) = 0) := by
   rw [hl]; apply propext; constructor
   ·intro h; split at h <;> omega
   ·intro h; split <;> omega
  have e3 : (t.tail.all fun x => decide (x.knd ≠ 7)) = decide (¬ x.knd = 7) := by rw [e1]; simp
  rw [e3]
  simp only [e2, decide_eq_true_eq]
 have k1 := eq_false (show ¬ t.knd = 1 by omega)
 have k2 := eq_false (show ¬ t.knd = 2 by omega)
 have k3 := eq_false (show ¬ t.knd = 3 by omega)
 have k4 := eq_false (show ¬ t.knd = 4 by omega)
 have k5 := eq_false (show ¬ t.knd = 5 by omega)
 have k6 := eq_false (show ¬ t.knd = 6 by omega)
 have k7 := eq_true hk
 have l0 : (t.tail.length : Int) = 1 := by omega
 clear hk hbe hb hit htt hsl hl
 generalize rsize t = r at *
 generalize ritems t.items 1 1 = s at *
 by_cases hs : s < 0
 ·have e : r = -1 := by rw [e0, if_pos hs, ite_self]
  rw [e]
  exact rsz_7b1 G t x s 0 k1 k2 k3 k4 k5 k6 k7 l0 hx hi (eq_true hs)
 ·have hj := hj (by omega)
  rw [if_neg hs] at e0
  generalize ritems t.tail s 0 = u at *
  by_cases x7 : x.knd = 7
  ·have e : r = -1 := by rw [e0, if_neg (fun hc => hc.2.2.2.2.2 x7)]
   rw [e]
   exact rsz_7b2 G t x s u k1 k2 k3 k4 k5 k6 k7 l0 hx hi hj (eq_false hs) (eq_true x7)
  ·simp only [x7, not_false_eq_true, and_true] at e0
   by_cases hc : t.neg = false /\ (t.limbs.length : Int) = 0 /\ t.text = [] /\ t.num = 0 /\ ¬ (t.items.length : Int) = 0
   ·rw [if_pos hc] at e0
    obtain ⟨c1, c2, c3, c4, c5⟩ := hc
    rw [e0]
    exact rsz_7b3 G t x s u k1 k2 k3 k4 k5 k6 k7 l0 hx hi hj (eq_false hs) (eq_false x7) c1 (eq_false (by omega)) (eq_true c2) (eq_true c3) (eq_true c4) (eq_false c5)
   ·rw [if_neg hc] at e0
    rw [e0]
    exact rsz_7b4 G t x s u k1 k2 k3 k4 k5 k6 k7 l0 hx hi hj (eq_false hs) (eq_false x7) hc
end
section
variable (G : Nat -> AV)
theorem rsz_pure (t : Term) (hb : t.bulk <= 1000000000) : Pure Tryz.prog G 55 [t.enc] (.int .i64 (rsize t)) := by
 revert hb
 refine Term.ind (P := fun t => t.bulk <= 1000000000 -> Pure Tryz.prog G 55 [t.enc] (.int .i64 (rsize t))) (fun t ih1 ih2 hb => ?_) t
 have hit : ∀ x, x ∈ t.items -> Pure Tryz.prog G 55 [x.enc] (.int .i64 (rsize x)) := fun x hx => ih1 x hx (by have := bulk_item hx; omega)
 have htt : ∀ x, x ∈ t.tail -> Pure Tryz.prog G 55 [x.enc] (.int .i64 (rsize x)) := fun x hx => ih2 x hx (by have := bulk_tail hx; omega)
 by_cases h0 : 1 <= t.knd /\ t.knd <= 7
 ·rcases (show t.knd = 1 \/ t.knd = 2 \/ t.knd = 3 \/ t.knd = 4 \/ t.knd = 5 \/ t.knd = 6 \/ t.knd = 7 by omega) with h | h | h | h | h | h | h
  ·exact rsz_1 G t hb h
  ·exact rsz_2 G t hb h
  ·exact rsz_3 G t hb h
  ·exact rsz_4 G t hb h hit
  ·exact rsz_5 G t hb h
  ·exact rsz_6 G t hb h hit
  ·by_cases l0 : t.tail.length = 0
   ·exact rsz_7a G t hb h hit htt l0
   ·by_cases l1 : t.tail.length = 1
    ·exact rsz_7b G t hb h hit htt (t.tail[0]'(by omega)) (List.getElem?_eq_getElem (by omega)) l1
    ·exact rsz_7c G t h (by omega)
 ·exact rsz_0 G t h0
end
end Go.Proofs.YtdhbdhopnpmboaaGreatDoor
