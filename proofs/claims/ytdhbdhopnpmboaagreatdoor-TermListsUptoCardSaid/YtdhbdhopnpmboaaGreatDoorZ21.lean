/- The reference's copies, and what it puts together, parts, and makes of a text. -/
import Derived.Test.YtdhbdhopnpmboaaGreatDoorZ13
import Derived.Test.YtdhbdhopnpmboaaGreatDoorZ15
import Derived.Test.YtdhbdhopnpmboaaGreatDoorZ20
import Derived.Test.YtdhbdhopnpmboaaGreatDoorZ12
import Derived.Test.YtdhbdhopnpmboaaGreatDoorZ19
set_option linter.unusedVariables false
set_option linter.unusedSimpArgs false
set_option maxRecDepth 20000
set_option linter.defProp false
namespace Go.Proofs.YtdhbdhopnpmboaaGreatDoor
open Go Go.Av
section
def tbRefCS := And.intro (And.intro (And.intro (And.intro @tf3 (And.intro @tf4 @tf5)) (And.intro (And.intro @tf47 @tf128) (And.intro @tf2 @tf106))) (And.intro (And.intro (And.intro @tf9 @tf23) (And.intro @tf22 @tf24)) (And.intro (And.intro @tf26 @tf36) (And.intro @Term.flat_enc @Term.isv_enc)))) (And.intro (And.intro (And.intro (And.intro @Term.fold_enc @isv_encs) (And.intro @flat_encs @len_encs)) (And.intro (And.intro @ix_encs @ix_encs') (And.intro @isv_lims @flat_lims))) (And.intro (And.intro (And.intro @len_lims @ix_lims) (And.intro @ix_lims' @flat_limA)) (And.intro (And.intro @ares_cons2 @ares1_tmp) (And.intro @ares1_cell @aresk_some))))
variable (G : Nat -> AV)
theorem enc_le3 (t : Term) {vl vk vt : AV} (h1 : Le vl (lims t.limbs)) (h2 : Le vk (encs t.items)) (h3 : Le vt (encs t.tail)) : Le (.agg [.int .u8 t.knd, .bool t.neg, vl, .str t.text, .int .i64 t.num, vk, vt]) t.enc := by
 rw [<- Term.fold_enc t]
 refine Le.agg ?_ (fun d hd => ones t d (by rw [Term.flat_enc]; exact hd))
 exact .cons (Le.refl _) (.cons (Le.refl _) (.cons h1 (.cons (Le.refl _) (.cons (Le.refl _) (.cons h2 (.cons h3 .nil))))))
theorem rcopies_pure (l : List Term) (hl : l.length <= 1000000000) (hf : ∀ x, x ∈ l -> Pure Tryz.prog G 63 [x.enc] x.enc) : Pure Tryz.prog G 64 [encs l] (encs l) := by
 refine Pure.of_le fun σ => ?_
 refine Tri.of_awp mixed Tryz.func64 rfl (by kernel_rfl) (by kernel_rfl) (by simp [Tryz.ntmps64]) Tryz.results64 ?_
 simp -dsimp only [↓bp, bq, br, seval, tbRefCS]
 refine loop_intro (fun n e σ' => ∃ i : Nat, i <= (l).length /\ n = (l).length - i /\ e 4 = .int .i64 i /\ ∃ v, e 3 = v /\ Buf 7 σ σ' v ((l.take i).map Term.enc)) (l).length
   ⟨0, by omega, by omega, by simp -dsimp only [↓bp, bq, br, seval, tbRefCS]; first | done | rfl, ⟨.nil, by first | (simp -dsimp only [↓bp, bq, br, seval, tbRefCS]; done) | (simp -dsimp only [↓bp, bq, br, seval, tbRefCS]; try rfl), .nil (AS.le.refl σ)⟩⟩ ?_
 rintro n v σ' ⟨i, hi, rfl, h4, ⟨v3, h3, hB⟩⟩
 simp -dsimp only [↓bp, bq, br, seval, tbRefCS] at h4 h3
 simp -dsimp only [↓bp, bq, br, seval, tbRefCS, h4, h3]
 refine condW_dec (fun hlt => ?_) (fun hge => ?_)
 ·obtain ⟨k, hk⟩ : ∃ k, l[i]? = some k := ⟨_, List.getElem?_eq_getElem (by omega)⟩
  have hp := hf k (List.mem_of_getElem? hk)
  have hil : i < l.length := (List.getElem?_eq_some_iff.1 hk).1
  have hlen : (l.take i).length = i := by rw [List.length_take]; omega
  clear hi hlt hf
  repeat' (first | refine xs ?_ ?_ <;> intros | (refine wn ?_; intro bx hbx; try simp only [fb] at hbx) | refine wp hp ?_ | (refine build_one tfN (Term.isv_enc k) (by rw [k.flat_enc]; rfl) (by omega) ?_) | (refine app_buf (ys := [k.enc]) (hB.newBox (by first | assumption | (simp only [*]; done)) _) tfN (asrc_sl tfE) (fun a ha => by simp at ha; subst ha; rw [k.flat_enc]; rfl) (by simp; omega) (fun v3 σ3 hB4 hx4 => ?_)) | (refine app_buf (ys := [k.enc]) hB tfN (asrc_sl tfE) (fun a ha => by simp at ha; subst ha; rw [k.flat_enc]; rfl) (by simp; omega) (fun v3 σ3 hB4 hx4 => ?_)) | refine wj ?_ | simp -dsimp only [↓bp, bq, br, seval, tbRefCS, *] | refine wz ?_ | fail)
  all_goals exact ⟨l.length - (i + 1), by omega, i + 1, by omega, rfl, by rw [wrap_nat (by omega) (by omega)]; rfl, by rw [take_succ_get _ _ _ hk, List.map_append]; exact hB4⟩
 ·have : i = l.length := by omega
  subst this
  rw [List.take_length] at hB
  clear hi hge hf
  repeat' (first | refine xs ?_ ?_ <;> intros | (refine wn ?_; intro bx hbx; try simp only [fb] at hbx) | refine wj ?_ | simp -dsimp only [↓bp, bq, br, seval, tbRefCS, *] | refine wz ?_ | fail)
  exact finish_le hB.told hB.le
theorem rcopy_pure (t : Term) : t.bulk <= 1000000000 -> Pure Tryz.prog G 63 [t.enc] t.enc := by
 refine Term.ind (P := fun t => t.bulk <= 1000000000 -> Pure Tryz.prog G 63 [t.enc] t.enc) (fun t ih1 ih2 hb => ?_) t
 have h1 := rcopies_pure G t.items (by have := len_items t; omega) (fun x hx => ih1 x hx (by have := bulk_item hx; omega))
 have h2 := rcopies_pure G t.tail (by have := len_tail t; omega) (fun x hx => ih2 x hx (by have := bulk_tail hx; omega))
 have hll := len_limbs t
 clear ih1 ih2
 refine Pure.of_le fun σ => ?_
 refine Tri.of_awp mixed Tryz.func63 rfl (by kernel_rfl) (by kernel_rfl) (by simp [Tryz.ntmps63]) Tryz.results63 ?_
 repeat' (first | refine xs ?_ ?_ <;> intros | (refine wn ?_; intro bx hbx; try simp only [fb] at hbx) | refine wp h1 ?_ | refine wp h2 ?_ | ((refine app_any (ys := t.limbs.map limA) (AS.le.refl _) (fun a ha => by cases ha) tfL (asrc_sl tfLE) (fun a ha => by obtain ⟨y, _, rfl⟩ := List.mem_map.1 ha; rfl) (by simp; omega) (fun v3 σ3 hle3 hbx3 hl3 ho3 => ?_); obtain ⟨q1, q2⟩ := flat_one ho3)) | refine wj ?_ | simp -dsimp only [↓bp, bq, br, seval, tbRefCS, *] | refine wz ?_ | fail)
 rename_i b0 hb0
 have y0 : σ.box bx = none := hbx.1.1
 have l3 := (((AS.le.refl σ).setBox hb0.1 _).setBox y0 _).trans hle3
 exact finish_le (enc_le3 t (by simpa [lims] using hl3) (Le.refl _) (Le.refl _)) ((l3.setBox hb0.1 _).setBox y0 _)
theorem rcps_pure (l : List Term) (hb : bulks l <= 1000000000) : Pure Tryz.prog G 64 [encs l] (encs l) := rcopies_pure G l (by have := len_le_bulks l; omega) fun x hx => rcopy_pure G x (by have := bulk_mem hx; omega)
set_option maxHeartbeats 2000000 in
theorem rcons_pure (h t : Term) (hh : h.bulk <= 300000000) (ht : t.bulk <= 300000000) : Pure Tryz.prog G 24 [h.enc, t.enc] (cons h t).enc := by
 have rh := rright_all G h (by omega)
 have rt := rright_all G t (by omega)
 have c1 := rcopy_pure G h (by omega)
 have c2 := rcopy_pure G t (by omega)
 have hbt := t.bulk_eq
 refine Pure.of_le fun σ => ?_
 cases eh : right h with
 | false =>
  rw [cons_bad (by simp [eh])]
  rw [eh] at rh
  refine Tri.of_awp mixed Tryz.func24 rfl (by kernel_rfl) (by kernel_rfl) (by simp [Tryz.ntmps24]) Tryz.results24 ?_
  repeat' (first | refine xs ?_ ?_ <;> intros | (refine wn ?_; intro bx hbx; try simp only [fb] at hbx) | refine wp rh ?_ | refine wp rt ?_ | refine wj ?_ | simp -dsimp only [↓bp, bq, br, seval, tbRefCS, *] | refine wz ?_ | fail)
  exact finish_le (enc_nil 0 false [] 0) (by repeat' first | exact lr _ | assumption | refine ls ?_ ?_ | refine lt ?_ ?_ | simp only [*]; done | simp only [fb, *, not_false_eq_true, and_self]; done | exact lf ‹_› (by simp only [*]))
 | true => cases et : right t with
  | false =>
   rw [cons_bad (by simp [et])]
   rw [eh] at rh
   rw [et] at rt
   refine Tri.of_awp mixed Tryz.func24 rfl (by kernel_rfl) (by kernel_rfl) (by simp [Tryz.ntmps24]) Tryz.results24 ?_
   repeat' (first | refine xs ?_ ?_ <;> intros | (refine wn ?_; intro bx hbx; try simp only [fb] at hbx) | refine wp rh ?_ | refine wp rt ?_ | refine wj ?_ | simp -dsimp only [↓bp, bq, br, seval, tbRefCS, *] | refine wz ?_ | fail)
   exact finish_le (enc_nil 0 false [] 0) (by repeat' first | exact lr _ | assumption | refine ls ?_ ?_ | refine lt ?_ ?_ | simp only [*]; done | simp only [fb, *, not_false_eq_true, and_self]; done | exact lf ‹_› (by simp only [*]))
  | true =>
   rw [eh] at rh
   rw [et] at rt
   by_cases h7 : t.knd = 7
   ·have hc0 : cons0 h t = listT (h :: t.items) t.tail := by unfold cons0; rw [if_pos h7]
    have c3 := rcps_pure G t.items (by omega)
    have c4 := rcps_pure G t.tail (by omega)
    have r1 := rright_all G (cons0 h t) (by have := cons0_bulk h t; omega)
    have r2 : ∀ v, Le v (encs (h :: t.items)) -> Pure Tryz.prog G 15 [.agg [.int .u8 7, .bool false, .nil, .str [], .int .i64 0, v, encs t.tail]] (.bool (right (cons0 h t))) := fun v hv => r1.lessArgs (.cons (by rw [hc0]; exact enc_le3 (listT _ _) Le.nil hv (Le.refl _)) .nil)
    have k7 := eq_true h7
    clear h7 r1
    have hli := len_items t
    cases er : right (cons0 h t) with
    | false =>
     have e : cons h t = zeroT := by unfold cons; rw [if_neg (by simp [er])]
     rw [e]
     rw [er] at r2
     refine Tri.of_awp mixed Tryz.func24 rfl (by kernel_rfl) (by kernel_rfl) (by simp [Tryz.ntmps24]) Tryz.results24 ?_
     repeat' (first | refine xs ?_ ?_ <;> intros | (refine wn ?_; intro bx hbx; try simp only [fb] at hbx) | refine wp rh ?_ | refine wp rt ?_ | refine wp c1 ?_ | refine wp c3 ?_ | refine wp c4 ?_ | (refine build_one tfN (Term.isv_enc h) (by rw [Term.flat_enc]; rfl) (by omega) ?_) | ((refine app_any (ys := t.items.map Term.enc) (AS.le.refl _) (fun a ha => by simp at ha; subst ha; rw [Term.flat_enc]; rfl) tfN (asrc_sl tfE) (fun a ha => by obtain ⟨y, _, rfl⟩ := List.mem_map.1 ha; rw [Term.flat_enc]; rfl) (by simp; omega) (fun v3 σ3 hle3 hbx3 hl3 ho3 => ?_); obtain ⟨q1, q2⟩ := flat_one ho3; have r3 := r2 v3 hl3)) | refine wp r3 ?_ | refine wj ?_ | simp -dsimp only [↓bp, bq, br, seval, tbRefCS, *] | refine wz ?_ | fail)
     rename_i b0 hb0 b1 hb1 b2 hb2
     have y0 : σ.box b0 = none := hb0.1
     have y1 : σ.box b1 = none := hb1.1.1
     have y2 : σ.box b2 = none := hb2.1.1.1
     have y3 : σ.box bx = none := hbx.1.1.1.1
     have l3 := (((((AS.le.refl σ).setBox y0 _).setBox y1 _).setBox y2 _).setBox y3 _).trans hle3
     exact finish_le (enc_nil 0 false [] 0) ((l3.setBox y3 _).setBox y2 _)
    | true =>
     have e : cons h t = listT (h :: t.items) t.tail := by unfold cons; rw [if_pos ⟨eh, et, er⟩, hc0]
     rw [e]
     rw [er] at r2
     refine Tri.of_awp mixed Tryz.func24 rfl (by kernel_rfl) (by kernel_rfl) (by simp [Tryz.ntmps24]) Tryz.results24 ?_
     repeat' (first | refine xs ?_ ?_ <;> intros | (refine wn ?_; intro bx hbx; try simp only [fb] at hbx) | refine wp rh ?_ | refine wp rt ?_ | refine wp c1 ?_ | refine wp c3 ?_ | refine wp c4 ?_ | (refine build_one tfN (Term.isv_enc h) (by rw [Term.flat_enc]; rfl) (by omega) ?_) | ((refine app_any (ys := t.items.map Term.enc) (AS.le.refl _) (fun a ha => by simp at ha; subst ha; rw [Term.flat_enc]; rfl) tfN (asrc_sl tfE) (fun a ha => by obtain ⟨y, _, rfl⟩ := List.mem_map.1 ha; rw [Term.flat_enc]; rfl) (by simp; omega) (fun v3 σ3 hle3 hbx3 hl3 ho3 => ?_); obtain ⟨q1, q2⟩ := flat_one ho3; have r3 := r2 v3 hl3)) | refine wp r3 ?_ | refine wj ?_ | simp -dsimp only [↓bp, bq, br, seval, tbRefCS, *] | refine wz ?_ | fail)
     rename_i b0 hb0 b1 hb1 b2 hb2
     have y0 : σ.box b0 = none := hb0.1
     have y1 : σ.box b1 = none := hb1.1.1
     have y2 : σ.box b2 = none := hb2.1.1.1
     have y3 : σ.box bx = none := hbx.1.1.1.1
     have l3 := (((((AS.le.refl σ).setBox y0 _).setBox y1 _).setBox y2 _).setBox y3 _).trans hle3
     exact finish_le (enc_le3 (listT _ _) Le.nil hl3 (Le.refl _)) ((l3.setBox y3 _).setBox y2 _)
   ·have hc0 : cons0 h t = listT [h] [t] := by unfold cons0; rw [if_neg h7]
    have r1 := rright_all G (cons0 h t) (by have := cons0_bulk h t; omega)
    have r2 : Pure Tryz.prog G 15 [.agg [.int .u8 7, .bool false, .nil, .str [], .int .i64 0, .sl .full [h.enc] [], .sl .full [t.enc] []]] (.bool (right (cons0 h t))) := r1.lessArgs (.cons (by rw [hc0]; exact enc_le3 (listT _ _) Le.nil Le.gh Le.gh) .nil)
    have k7 := eq_false h7
    clear h7 r1
    cases er : right (cons0 h t) with
    | false =>
     have e : cons h t = zeroT := by unfold cons; rw [if_neg (by simp [er])]
     rw [e]
     rw [er] at r2
     refine Tri.of_awp mixed Tryz.func24 rfl (by kernel_rfl) (by kernel_rfl) (by simp [Tryz.ntmps24]) Tryz.results24 ?_
     repeat' (first | refine xs ?_ ?_ <;> intros | (refine wn ?_; intro bx hbx; try simp only [fb] at hbx) | refine wp rh ?_ | refine wp rt ?_ | refine wp c1 ?_ | refine wp c2 ?_ | (refine build_one tfN (Term.isv_enc h) (by rw [Term.flat_enc]; rfl) (by omega) ?_) | (refine build_one tfN (Term.isv_enc t) (by rw [Term.flat_enc]; rfl) (by omega) ?_) | refine wp r2 ?_ | refine wj ?_ | simp -dsimp only [↓bp, bq, br, seval, tbRefCS, *] | refine wz ?_ | fail)
     exact finish_le (enc_nil 0 false [] 0) (by repeat' first | exact lr _ | assumption | refine ls ?_ ?_ | refine lt ?_ ?_ | simp only [*]; done | simp only [fb, *, not_false_eq_true, and_self]; done | exact lf ‹_› (by simp only [*]))
    | true =>
     have e : cons h t = listT [h] [t] := by unfold cons; rw [if_pos ⟨eh, et, er⟩, hc0]
     rw [e]
     rw [er] at r2
     refine Tri.of_awp mixed Tryz.func24 rfl (by kernel_rfl) (by kernel_rfl) (by simp [Tryz.ntmps24]) Tryz.results24 ?_
     repeat' (first | refine xs ?_ ?_ <;> intros | (refine wn ?_; intro bx hbx; try simp only [fb] at hbx) | refine wp rh ?_ | refine wp rt ?_ | refine wp c1 ?_ | refine wp c2 ?_ | (refine build_one tfN (Term.isv_enc h) (by rw [Term.flat_enc]; rfl) (by omega) ?_) | (refine build_one tfN (Term.isv_enc t) (by rw [Term.flat_enc]; rfl) (by omega) ?_) | refine wp r2 ?_ | refine wj ?_ | simp -dsimp only [↓bp, bq, br, seval, tbRefCS, *] | refine wz ?_ | fail)
     exact finish_le (enc_le3 (listT _ _) Le.nil Le.gh Le.gh) (by repeat' first | exact lr _ | assumption | refine ls ?_ ?_ | refine lt ?_ ?_ | simp only [*]; done | simp only [fb, *, not_false_eq_true, and_self]; done | exact lf ‹_› (by simp only [*]))
end
set_option maxRecDepth 20000
section
def tbRefCS2 := And.intro (And.intro (And.intro (And.intro @tf3 (And.intro @tf4 @tf5)) (And.intro (And.intro @tf47 @tf128) (And.intro @tf2 @tf106))) (And.intro (And.intro (And.intro @tf9 @tf23) (And.intro @tf22 @tf24)) (And.intro (And.intro @tf26 @tf36) (And.intro @Term.flat_enc @Term.isv_enc)))) (And.intro (And.intro (And.intro (And.intro @Term.fold_enc @isv_encs) (And.intro @flat_encs @len_encs)) (And.intro (And.intro @ix_encs @ix_encs') (And.intro @isv_lims @flat_lims))) (And.intro (And.intro (And.intro @len_lims @ix_lims) (And.intro @ix_lims' @flat_limA)) (And.intro (And.intro @ares_cons2 @ares1_tmp) (And.intro @ares1_cell @aresk_some))))
variable (G : Nat -> AV)
theorem rsplitBad_pure (t : Term) (rt : Pure Tryz.prog G 15 [t.enc] (.bool (right t))) (hb : ¬ (right t = true /\ t.knd = 7 /\ t.items ≠ [])) : Pure Tryz.prog G 23 [t.enc] (.tup [zeroT.enc, zeroT.enc, .bool false]) := by
 refine Pure.of_le fun σ => ?_
 cases et : right t with
 | false =>
  rw [et] at rt
  clear hb
  refine Tri.of_awp mixed Tryz.func23 rfl (by kernel_rfl) (by kernel_rfl) (by simp [Tryz.ntmps23]) Tryz.results23 ?_
  repeat' (first | refine xs ?_ ?_ <;> intros | (refine wn ?_; intro bx hbx; try simp only [fb] at hbx) | refine wp rt ?_ | refine wj ?_ | simp -dsimp only [↓bp, bq, br, seval, tbRefCS2, *] | refine wz ?_ | fail)
  exact finishW_some σ (by repeat' first | exact lr _ | assumption | refine ls ?_ ?_ | refine lt ?_ ?_ | simp only [*]; done | simp only [fb, *, not_false_eq_true, and_self]; done | exact lf ‹_› (by simp only [*])) ⟨Le.tup (.cons zero_le (.cons zero_le (.cons (Le.refl _) .nil))), rfl⟩
 | true =>
  rw [et] at rt
  by_cases h7 : t.knd = 7
  ·have hl : (t.items.length : Int) = 0 := by
    by_cases hi : t.items = []
    ·rw [hi]; rfl
    ·exact absurd ⟨et, h7, hi⟩ hb
   have k7 := eq_true h7
   clear hb h7
   refine Tri.of_awp mixed Tryz.func23 rfl (by kernel_rfl) (by kernel_rfl) (by simp [Tryz.ntmps23]) Tryz.results23 ?_
   repeat' (first | refine xs ?_ ?_ <;> intros | (refine wn ?_; intro bx hbx; try simp only [fb] at hbx) | refine wp rt ?_ | refine wj ?_ | simp -dsimp only [↓bp, bq, br, seval, tbRefCS2, *] | refine wz ?_ | fail)
   exact finishW_some σ (by repeat' first | exact lr _ | assumption | refine ls ?_ ?_ | refine lt ?_ ?_ | simp only [*]; done | simp only [fb, *, not_false_eq_true, and_self]; done | exact lf ‹_› (by simp only [*])) ⟨Le.tup (.cons zero_le (.cons zero_le (.cons (Le.refl _) .nil))), rfl⟩
  ·have k7 := eq_false h7
   clear hb h7
   refine Tri.of_awp mixed Tryz.func23 rfl (by kernel_rfl) (by kernel_rfl) (by simp [Tryz.ntmps23]) Tryz.results23 ?_
   repeat' (first | refine xs ?_ ?_ <;> intros | (refine wn ?_; intro bx hbx; try simp only [fb] at hbx) | refine wp rt ?_ | refine wj ?_ | simp -dsimp only [↓bp, bq, br, seval, tbRefCS2, *] | refine wz ?_ | fail)
   exact finishW_some σ (by repeat' first | exact lr _ | assumption | refine ls ?_ ?_ | refine lt ?_ ?_ | simp only [*]; done | simp only [fb, *, not_false_eq_true, and_self]; done | exact lf ‹_› (by simp only [*])) ⟨Le.tup (.cons zero_le (.cons zero_le (.cons (Le.refl _) .nil))), rfl⟩
set_option maxHeartbeats 2000000 in
theorem rsplitOne_pure (t x y : Term) (k7 : (t.knd = 7) = True) (hl0 : (t.items.length : Int) = 1) (hl1 : (t.tail.length : Int) = 1) (hx : t.items[0]? = some x) (hy : t.tail[0]? = some y) (rt : Pure Tryz.prog G 15 [t.enc] (.bool true)) (cx : Pure Tryz.prog G 63 [x.enc] x.enc) (cy : Pure Tryz.prog G 63 [y.enc] y.enc) : Pure Tryz.prog G 23 [t.enc] (.tup [x.enc, y.enc, .bool true]) := by
 refine Pure.of_le fun σ => ?_
 refine Tri.of_awp mixed Tryz.func23 rfl (by kernel_rfl) (by kernel_rfl) (by simp [Tryz.ntmps23]) Tryz.results23 ?_
 repeat' (first | (refine wn ?_; intro bx hbx; try simp only [fb] at hbx) | refine wp rt ?_ | refine wp cx ?_ | refine wi ?_ | simp -dsimp only [↓bp, bq, br, seval, tbRefCS2, *] | refine wz ?_ | fail)
 rename_i b1 hb1 b2 hb2 b3 hb3
 obtain ⟨⟨⟨y4, e1, e2⟩, e3, e4⟩, e5, e6⟩ := hbx
 obtain ⟨⟨y3, e7, e8⟩, e9, e10⟩ := hb3
 obtain ⟨y2, e11, e12⟩ := hb2
 obtain ⟨S0, hS0⟩ : ∃ S0 : AS, S0 = (((σ.setBox b1 [.int .u8 t.knd, .bool t.neg, lims t.limbs, .str t.text, .int .i64 t.num, encs t.items, encs t.tail]).setBox b2 [.int .u8 0, .bool false, .nil, .str [], .int .i64 0, .nil, .nil]).setBox b3 [.int .u8 0, .bool false, .nil, .str [], .int .i64 0, .nil, .nil]).setBox bx [.int .u8 x.knd, .bool x.neg, lims x.limbs, .str x.text, .int .i64 x.num, encs x.items, encs x.tail] := ⟨_, rfl⟩
 have l0 : σ.le S0 := by rw [hS0]; exact ((((AS.le.refl σ).setBox hb1.1 _).setBox y2.1 _).setBox y3.1 _).setBox y4.1 _
 have f1 : S0.box b1 = some [.int .u8 t.knd, .bool t.neg, lims t.limbs, .str t.text, .int .i64 t.num, encs t.items, encs t.tail] := by rw [hS0]; simp only [AS.setBox, if_neg e2, if_neg e8, if_neg e12, if_true]
 have f2 : S0.box b2 = some [.int .u8 0, .bool false, .nil, .str [], .int .i64 0, .nil, .nil] := by rw [hS0]; simp only [AS.setBox, if_neg e4, if_neg e10, if_true]
 have f3 : S0.box b3 = some [.int .u8 0, .bool false, .nil, .str [], .int .i64 0, .nil, .nil] := by rw [hS0]; simp only [AS.setBox, if_neg e6, if_true]
 have f4 : S0.box bx = some [.int .u8 x.knd, .bool x.neg, lims x.limbs, .str x.text, .int .i64 x.num, encs x.items, encs x.tail] := by rw [hS0]; exact AS.set_get
 have m1 : (b2 = bx) = False := eq_false e4
 have m2 : (bx = b2) = False := eq_false e3
 have m3 : (b2 = b3) = False := eq_false e10
 have m4 : (b3 = b2) = False := eq_false e9
 have m5 : (b1 = b2) = False := eq_false e12
 have m6 : (b3 = bx) = False := eq_false e6
 have m7 : (bx = b3) = False := eq_false e5
 have m8 : (b1 = b3) = False := eq_false e8
 have z2 := y2.1
 have z3 := y3.1
 rw [<- hS0]
 clear hS0 e1 e2 e3 e4 e5 e6 e7 e8 e9 e10 e11 e12 y2 y3 y4 hb1 rt cx
 refine draw_float1 7 b2 (by decide +kernel) f2 ?_
 repeat' (first | (refine wn ?_; intro bx hbx; try simp only [fb] at hbx) | refine wp cy ?_ | refine wi ?_ | simp -dsimp only [↓bp, bq, br, seval, tbRefCS2, *] | refine wz ?_ | fail)
 exact finishW_some σ ((l0.setBox z2 _).setBox z3 _) ⟨Le.refl _, rfl⟩
set_option maxHeartbeats 2000000 in
theorem rsplitMore_pure (t x : Term) (q : List Term) (k7 : (t.knd = 7) = True) (hl0 : ¬ (t.items.length : Int) = 0) (hl1 : ((t.items.length : Int) = 1 /\ (t.tail.length : Int) = 0) \/ ¬ (t.items.length : Int) = 1) (hl2 : 1 <= t.items.length) (hx : t.items[0]? = some x) (hdr : (t.items.take t.items.length).drop 1 = q) (hdr2 : t.items.drop 1 = q) (rt : Pure Tryz.prog G 15 [t.enc] (.bool true)) (cx : Pure Tryz.prog G 63 [x.enc] x.enc) (c1 : Pure Tryz.prog G 64 [encs q] (encs q)) (c2 : Pure Tryz.prog G 64 [encs t.tail] (encs t.tail)) : Pure Tryz.prog G 23 [t.enc] (.tup [x.enc, (listT q t.tail).enc, .bool true]) := by
 refine Pure.of_le fun σ => ?_
 rcases hl1 with ⟨h1, h2⟩ | h1
 ·rw [h1] at hl0
  refine Tri.of_awp mixed Tryz.func23 rfl (by kernel_rfl) (by kernel_rfl) (by simp [Tryz.ntmps23]) Tryz.results23 ?_
  repeat' (first | (refine wn ?_; intro bx hbx; try simp only [fb] at hbx) | refine wp rt ?_ | refine wp cx ?_ | refine wi ?_ | simp -dsimp only [↓bp, bq, br, seval, tbRefCS2, *] | refine wz ?_ | fail)
  rename_i b1 hb1 b2 hb2 b3 hb3
  obtain ⟨⟨⟨y4, e1, e2⟩, e3, e4⟩, e5, e6⟩ := hbx
  obtain ⟨⟨y3, e7, e8⟩, e9, e10⟩ := hb3
  obtain ⟨y2, e11, e12⟩ := hb2
  obtain ⟨S0, hS0⟩ : ∃ S0 : AS, S0 = (((σ.setBox b1 [.int .u8 t.knd, .bool t.neg, lims t.limbs, .str t.text, .int .i64 t.num, encs t.items, encs t.tail]).setBox b2 [.int .u8 0, .bool false, .nil, .str [], .int .i64 0, .nil, .nil]).setBox b3 [.int .u8 0, .bool false, .nil, .str [], .int .i64 0, .nil, .nil]).setBox bx [.int .u8 x.knd, .bool x.neg, lims x.limbs, .str x.text, .int .i64 x.num, encs x.items, encs x.tail] := ⟨_, rfl⟩
  have l0 : σ.le S0 := by rw [hS0]; exact ((((AS.le.refl σ).setBox hb1.1 _).setBox y2.1 _).setBox y3.1 _).setBox y4.1 _
  have f1 : S0.box b1 = some [.int .u8 t.knd, .bool t.neg, lims t.limbs, .str t.text, .int .i64 t.num, encs t.items, encs t.tail] := by rw [hS0]; simp only [AS.setBox, if_neg e2, if_neg e8, if_neg e12, if_true]
  have f2 : S0.box b2 = some [.int .u8 0, .bool false, .nil, .str [], .int .i64 0, .nil, .nil] := by rw [hS0]; simp only [AS.setBox, if_neg e4, if_neg e10, if_true]
  have f3 : S0.box b3 = some [.int .u8 0, .bool false, .nil, .str [], .int .i64 0, .nil, .nil] := by rw [hS0]; simp only [AS.setBox, if_neg e6, if_true]
  have f4 : S0.box bx = some [.int .u8 x.knd, .bool x.neg, lims x.limbs, .str x.text, .int .i64 x.num, encs x.items, encs x.tail] := by rw [hS0]; exact AS.set_get
  have m1 : (b2 = bx) = False := eq_false e4
  have m2 : (bx = b2) = False := eq_false e3
  have m3 : (b2 = b3) = False := eq_false e10
  have m4 : (b3 = b2) = False := eq_false e9
  have m5 : (b1 = b2) = False := eq_false e12
  have m6 : (b3 = bx) = False := eq_false e6
  have m7 : (bx = b3) = False := eq_false e5
  have m8 : (b1 = b3) = False := eq_false e8
  have z2 := y2.1
  have z3 := y3.1
  rw [<- hS0]
  clear hS0 e1 e2 e3 e4 e5 e6 e7 e8 e9 e10 e11 e12 y2 y3 y4 hb1 rt cx
  refine draw_float1 10 b2 (by decide +kernel) f2 ?_
  repeat' (first | (refine wn ?_; intro bx hbx; try simp only [fb] at hbx) | refine wp c1 ?_ | refine wp c2 ?_ | refine wi ?_ | simp -dsimp only [↓bp, bq, br, seval, tbRefCS2, sl_encs, *] | refine wz ?_ | fail)
  exact finishW_some σ ((l0.setBox z2 _).setBox z3 _) ⟨Le.tup (.cons (Le.refl _) (.cons (listT_le _ _) (.cons (Le.refl _) .nil))), rfl⟩
 ·refine Tri.of_awp mixed Tryz.func23 rfl (by kernel_rfl) (by kernel_rfl) (by simp [Tryz.ntmps23]) Tryz.results23 ?_
  repeat' (first | (refine wn ?_; intro bx hbx; try simp only [fb] at hbx) | refine wp rt ?_ | refine wp cx ?_ | refine wi ?_ | simp -dsimp only [↓bp, bq, br, seval, tbRefCS2, *] | refine wz ?_ | fail)
  rename_i b1 hb1 b2 hb2 b3 hb3
  obtain ⟨⟨⟨y4, e1, e2⟩, e3, e4⟩, e5, e6⟩ := hbx
  obtain ⟨⟨y3, e7, e8⟩, e9, e10⟩ := hb3
  obtain ⟨y2, e11, e12⟩ := hb2
  obtain ⟨S0, hS0⟩ : ∃ S0 : AS, S0 = (((σ.setBox b1 [.int .u8 t.knd, .bool t.neg, lims t.limbs, .str t.text, .int .i64 t.num, encs t.items, encs t.tail]).setBox b2 [.int .u8 0, .bool false, .nil, .str [], .int .i64 0, .nil, .nil]).setBox b3 [.int .u8 0, .bool false, .nil, .str [], .int .i64 0, .nil, .nil]).setBox bx [.int .u8 x.knd, .bool x.neg, lims x.limbs, .str x.text, .int .i64 x.num, encs x.items, encs x.tail] := ⟨_, rfl⟩
  have l0 : σ.le S0 := by rw [hS0]; exact ((((AS.le.refl σ).setBox hb1.1 _).setBox y2.1 _).setBox y3.1 _).setBox y4.1 _
  have f1 : S0.box b1 = some [.int .u8 t.knd, .bool t.neg, lims t.limbs, .str t.text, .int .i64 t.num, encs t.items, encs t.tail] := by rw [hS0]; simp only [AS.setBox, if_neg e2, if_neg e8, if_neg e12, if_true]
  have f2 : S0.box b2 = some [.int .u8 0, .bool false, .nil, .str [], .int .i64 0, .nil, .nil] := by rw [hS0]; simp only [AS.setBox, if_neg e4, if_neg e10, if_true]
  have f3 : S0.box b3 = some [.int .u8 0, .bool false, .nil, .str [], .int .i64 0, .nil, .nil] := by rw [hS0]; simp only [AS.setBox, if_neg e6, if_true]
  have f4 : S0.box bx = some [.int .u8 x.knd, .bool x.neg, lims x.limbs, .str x.text, .int .i64 x.num, encs x.items, encs x.tail] := by rw [hS0]; exact AS.set_get
  have m1 : (b2 = bx) = False := eq_false e4
  have m2 : (bx = b2) = False := eq_false e3
  have m3 : (b2 = b3) = False := eq_false e10
  have m4 : (b3 = b2) = False := eq_false e9
  have m5 : (b1 = b2) = False := eq_false e12
  have m6 : (b3 = bx) = False := eq_false e6
  have m7 : (bx = b3) = False := eq_false e5
  have m8 : (b1 = b3) = False := eq_false e8
  have z2 := y2.1
  have z3 := y3.1
  rw [<- hS0]
  clear hS0 e1 e2 e3 e4 e5 e6 e7 e8 e9 e10 e11 e12 y2 y3 y4 hb1 rt cx
  refine draw_float1 10 b2 (by decide +kernel) f2 ?_
  repeat' (first | (refine wn ?_; intro bx hbx; try simp only [fb] at hbx) | refine wp c1 ?_ | refine wp c2 ?_ | refine wi ?_ | simp -dsimp only [↓bp, bq, br, seval, tbRefCS2, sl_encs, *] | refine wz ?_ | fail)
  exact finishW_some σ ((l0.setBox z2 _).setBox z3 _) ⟨Le.tup (.cons (Le.refl _) (.cons (listT_le _ _) (.cons (Le.refl _) .nil))), rfl⟩
theorem rsplit_pure (t : Term) (hb : t.bulk <= 300000000) : Pure Tryz.prog G 23 [t.enc] (.tup [(splitF t).1.enc, (splitF t).2.1.enc, .bool (splitF t).2.2]) := by
 have rt := rright_all G t (by omega)
 have hbt := t.bulk_eq
 by_cases hc : right t = true /\ t.knd = 7 /\ t.items ≠ []
 ·obtain ⟨et, h7, hne⟩ := hc
  have k7 := eq_true h7
  rw [et] at rt
  cases hi : t.items with
  | nil => exact absurd hi hne
  | cons x l =>
   have hx : t.items[0]? = some x := by rw [hi]; rfl
   have hbx : x.bulk <= bulks t.items := bulk_mem (by rw [hi]; simp)
   have cx := rcopy_pure G x (by omega)
   have hl0 : ¬ (t.items.length : Int) = 0 := by rw [hi]; simp; omega
   have c2 := rcps_pure G t.tail (by omega)
   cases l with
   | nil =>
    have hl1 : (t.items.length : Int) = 1 := by rw [hi]; rfl
    have e : splitF t = (x, tailOf t, true) := by unfold splitF split; rw [if_pos ⟨et, h7⟩, hi]
    rw [e]
    cases htl : t.tail with
    | nil =>
     have e2 : tailOf t = listT [] t.tail := by unfold tailOf; rw [htl]
     rw [e2]
     exact rsplitMore_pure G t x [] k7 hl0 (.inl ⟨hl1, by rw [htl]; rfl⟩) (by omega) hx (by rw [List.take_length, hi]; rfl) (by rw [hi]; rfl) rt cx (rcps_pure G [] (by simp [bulks])) c2
    | cons y r =>
     have hr1 : r = [] := by
      have := ((right_spec et).list h7).1
      rw [htl] at this
      exact List.eq_nil_of_length_eq_zero (by simpa using this)
     have e2 : tailOf t = y := by unfold tailOf; rw [htl]
     rw [e2]
     exact rsplitOne_pure G t x y k7 hl1 (by rw [htl, hr1]; rfl) hx (by rw [htl]; rfl) rt cx (rcopy_pure G y (by have := bulk_mem (show y ∈ t.tail by rw [htl]; simp); omega))
   | cons y r =>
    have e : splitF t = (x, listT (y :: r) t.tail, true) := by unfold splitF split; rw [if_pos ⟨et, h7⟩, hi]
    rw [e]
    have hl1 : ¬ (t.items.length : Int) = 1 := by rw [hi]; simp; omega
    have hbb : bulks t.items = x.bulk + bulks (y :: r) := by rw [hi]; rfl
    exact rsplitMore_pure G t x (y :: r) k7 hl0 (.inr hl1) (by omega) hx (by rw [List.take_length, hi]; rfl) (by rw [hi]; rfl) rt cx (rcps_pure G (y :: r) (by omega)) c2
 ·have e : splitF t = (zeroT, zeroT, false) := by
   unfold splitF split
   split
   ·rename_i h r he
    split at he
    ·rename_i hh
     exfalso
     refine hc ⟨hh.1, hh.2, fun e => ?_⟩
     rw [e] at he; cases he
    ·cases he
   ·rfl
  rw [e]
  exact rsplitBad_pure G t rt hc
end
set_option maxRecDepth 20000
section
def tbRefCS3 := And.intro (And.intro (And.intro (And.intro @tf3 (And.intro @tf4 @tf5)) (And.intro (And.intro @tf47 @tf128) (And.intro @tf2 @tf106))) (And.intro (And.intro (And.intro @tf9 @tf23) (And.intro @tf22 @tf24)) (And.intro (And.intro @tf26 @tf36) (And.intro @Term.flat_enc @Term.isv_enc)))) (And.intro (And.intro (And.intro (And.intro @Term.fold_enc @isv_encs) (And.intro @flat_encs @len_encs)) (And.intro (And.intro @ix_encs @ix_encs') (And.intro @isv_lims @flat_lims))) (And.intro (And.intro (And.intro @len_lims @ix_lims) (And.intro @ix_lims' @flat_limA)) (And.intro (And.intro @ares_cons2 @ares1_tmp) (And.intro @ares1_cell @aresk_some))))
variable (G : Nat -> AV)
theorem val_one {l : List UInt32} {n : Nat} (h1 : l.length = 1) (h2 : val l = n) : l = [UInt32.ofNat n] := by
 match l, h1 with
 | [x], _ =>
  simp only [val, Nat.mul_zero, Nat.add_zero] at h2
  subst h2
  simp
theorem byte_of (n : Nat) (hn : n < 256) : ofT (n : Int) = byteT n := by
 have e0 : (n : Int).natAbs = n := Int.natAbs_natCast n
 have e1 : decide ((n : Int) < 0) = false := by simp
 unfold ofT byteT
 rw [e0, e1]
 congr 1
 by_cases hz : n = 0
 ·subst hz
  have hc : (cutB (bitsN 0)).length = 0 := (cut_len _).2 (bitsN_bv 0)
  have hl : (limbsB (cutB (bitsN 0))).length = 0 := by rw [limbsB_len, hc]
  rw [List.eq_nil_of_length_eq_zero hl]
  rfl
 ·have hne : (cutB (bitsN n)).length ≠ 0 := fun e => hz (by rw [<- bitsN_bv n]; exact (cut_len _).1 e)
  have hle : (cutB (bitsN n)).length <= 8 := Nat.le_trans (cutB_len _) (bitsN_len 8 n (by omega))
  have hl : (limbsB (cutB (bitsN n))).length = 1 := by rw [limbsB_len]; omega
  rw [val_one hl (by rw [limbsB_val, bv_cut, bitsN_bv])]
  have hx : UInt32.ofNat n ≠ 0 := fun e => by
   have := congrArg UInt32.toNat e
   simp at this; omega
  simp [strip, hx]
theorem ritems_long (l : List Term) : ∀ n : Int, ritems l n 1 = -1 \/ n + 2 * l.length <= ritems l n 1 := by
 induction l with
 | nil => intro n; right; simp [ritems]
 | cons x l ih =>
  intro n
  have hx := (size_rsize x).pos
  simp only [ritems, List.length_cons]
  rcases hx with hx | hx
  ·left; rw [hx]; simp
  ·rw [if_neg (by omega)]
   rcases ih (n + rsize x + 1) with h | h
   ·left; exact h
   ·right; omega
theorem of_long {s : List UInt8} (h : 4096 < s.length) : ofS s = zeroT := by
 have hr : right (of0 s) = false := by
  rw [right_rsize]
  have h7 : (of0 s).knd = 7 := rfl
  have hl := ritems_long (of0 s).items 1
  have hlen : (of0 s).items.length = 4097 := by
   show (bytesT (s.take 4097)).length = 4097
   unfold bytesT; rw [List.length_map, List.length_take]; omega
  have ht : (of0 s).tail = [] := rfl
  have hz : rsize (of0 s) = -1 \/ 4096 < rsize (of0 s) := by
   rw [rsize_7 h7, ht]
   have h0 : ∀ n : Int, ritems [] n 0 = n := fun n => by simp [ritems]
   have key : ∀ (c : Prop) [Decidable c] (r : Int), (r = -1 \/ 4096 < r) -> (if c then (if r < 0 then -1 else ritems [] r 0) else -1) = -1 \/ 4096 < (if c then (if r < 0 then -1 else ritems [] r 0) else (-1 : Int)) := by
    intro c _ r hr
    by_cases hc : c
    ·rw [if_pos hc]
     by_cases h : r < 0
     ·left; rw [if_pos h]
     ·right; rw [if_neg h, h0]; omega
    ·left; rw [if_neg hc]
   exact key _ _ (by omega)
  rcases hz with hz | hz
  ·rw [hz]; rfl
  ·rw [decide_eq_false (show ¬ rsize (of0 s) <= 4096 by omega), Bool.and_false]
 unfold ofS
 rw [hr]
 rfl
set_option maxHeartbeats 4000000 in
theorem rof_list_pure (s : List UInt8) (hs : s.length <= 1000000000) : Pure Tryz.prog G 25 [.str s] (ofS s).enc := by
 refine Pure.of_le fun σ => ?_
 by_cases hlong : 4096 < s.length
 ·rw [of_long hlong]
  have hl := eq_true (show (4096 : Int) < s.length by omega)
  refine Tri.of_awp mixed Tryz.func25 rfl (by kernel_rfl) (by kernel_rfl) (by simp [Tryz.ntmps25]) Tryz.results25 ?_
  repeat' (first | refine xs ?_ ?_ <;> intros | (refine wn ?_; intro bx hbx; try simp only [fb] at hbx) | refine wj ?_ | simp -dsimp only [↓bp, bq, br, seval, tbRefCS3, *] | refine wz ?_ | fail)
  exact finish_le (enc_nil 0 false [] 0) (by repeat' first | exact lr _ | assumption | refine ls ?_ ?_ | refine lt ?_ ?_ | simp only [*]; done | simp only [fb, *, not_false_eq_true, and_self]; done | exact lf ‹_› (by simp only [*]))
 ·have hl := eq_false (show ¬ (4096 : Int) < s.length by omega)
  have r0 := rright_all G (of0 s) (by have := of0_bulk s; omega)
  refine Tri.of_awp mixed Tryz.func25 rfl (by kernel_rfl) (by kernel_rfl) (by simp [Tryz.ntmps25]) Tryz.results25 ?_
  repeat' (first | (refine wn ?_; intro bx hbx; try simp only [fb] at hbx) | refine wi ?_ | simp -dsimp only [↓bp, bq, br, seval, tbRefCS3, *] | refine wz ?_ | fail)
  rename Nat => b3
  have hb2 : σ.fresh bx := by assumption
  obtain ⟨hb3, n1, n2⟩ : σ.fresh b3 /\ ¬ b3 = bx /\ ¬ bx = b3 := by assumption
  have m1 : (b3 = bx) = False := eq_false n1
  have m2 : (bx = b3) = False := eq_false n2
  refine loop_intro (fun n e σ' => ∃ (i : Nat) (v : AV), i <= s.length /\ n = s.length - i /\ e 4 = .int .i64 i /\ σ'.box b3 = some [.int .u8 7, .bool false, .nil, .str [], .int .i64 0, v, .nil] /\ σ'.box bx = some [.int .u8 0, .bool false, .nil, .str [], .int .i64 0, .nil, .nil] /\ Buf 7 σ σ' v ((bytesT (s.take i)).map Term.enc)) s.length
   ⟨0, .nil, by omega, by omega, by first | (simp -dsimp only [↓bp, bq, br, seval, tbRefCS3]; done) | (simp -dsimp only [↓bp, bq, br, seval, tbRefCS3]; try rfl), AS.set_get, set_other AS.set_get n2, .nil (((AS.le.refl σ).setBox hb2.1 _).setBox hb3.1 _)⟩ ?_
  clear n1 n2
  rintro n e1 σ2 ⟨i, v, hi, rfl, h4, f3, f2, hB⟩
  simp -dsimp only [↓bp, bq, br, seval, tbRefCS3] at h4
  obtain ⟨o1, o2, o3⟩ := buf_rowT hB
  by_cases hlt : i < s.length
  ·have hlt' : ((i : Int) < s.length) = True := eq_true (by omega)
   obtain ⟨c, hc⟩ : ∃ c, s[i]? = some c := ⟨_, List.getElem?_eq_getElem hlt⟩
   have hof := rof_pure G (c.toNat : Int) (by omega) (by have := UInt8.toNat_lt c; omega)
   rw [byte_of _ (UInt8.toNat_lt c)] at hof
   have hwi : IntKind.i64.wrap ((i : Int) + 1) = ((i + 1 : Nat) : Int) := by rw [wrap_nat (by omega) (by omega)]; rfl
   have hwc : IntKind.i64.wrap (c.toNat : Int) = c.toNat := by have := UInt8.toNat_lt c; rw [wrap_nat (by omega) (by omega)]
   have hbl : (bytesT (s.take i)).length = i := by unfold bytesT; rw [List.length_map, List.length_take]; omega
   clear r0
   repeat' (first | (refine wn ?_; intro bx hbx; try simp only [fb] at hbx) | refine wi ?_ | simp -dsimp only [↓bp, bq, br, seval, tbRefCS3, *] | refine wz ?_ | fail)
   refine draw_perm 8 [0, 1, 2, 3, 4, 5, 6, 7] (by decide +kernel) rfl ?_
   intro hinf
   refine p_read (v := .ptr b3 5) rfl rfl (by simp only [rdv]; simp -dsimp only [↓bp, bq, br, seval, tbRefCS3, *]) ?_
   refine p_read (v := v) rfl rfl (by simp only [rdv]; simp -dsimp only [↓bp, bq, br, seval, tbRefCS3, *]) ?_
   refine p_read (v := .str s) rfl rfl (by simp only [rdv]; simp -dsimp only [↓bp, bq, br, seval, tbRefCS3, *]) ?_
   refine p_read (v := .int .i64 i) rfl rfl (by simp only [rdv]; simp -dsimp only [↓bp, bq, br, seval, tbRefCS3, *]) ?_
   refine p_seq rfl rfl ?_
   repeat' (first | (refine wn ?_; intro bx hbx; try simp only [fb] at hbx) | refine wi ?_ | simp -dsimp only [↓bp, bq, br, seval, tbRefCS3, *] | refine wz ?_ | fail)
   refine ⟨AS.le.refl _, ?_⟩
   refine p_seq rfl rfl ?_
   repeat' (first | (refine wn ?_; intro bx hbx; try simp only [fb] at hbx) | refine wi ?_ | simp -dsimp only [↓bp, bq, br, seval, tbRefCS3, *] | refine wz ?_ | fail)
   refine ⟨AS.le.refl _, ?_⟩
   refine p_seq rfl rfl ?_
   repeat' (first | (refine wn ?_; intro bx hbx; try simp only [fb] at hbx) | refine wp hof ?_ | refine wi ?_ | simp -dsimp only [↓bp, bq, br, seval, tbRefCS3, *] | refine wz ?_ | fail)
   refine ⟨AS.le.refl _, ?_⟩
   refine p_read (v := .sl .full [(byteT c.toNat).enc] []) rfl rfl (by simp only [rdv]; simp -dsimp only [↓bp, bq, br, seval, tbRefCS3]; exact abs_one tfN (Term.isv_enc _) (by rw [Term.flat_enc]; rfl) (by omega)) ?_
   refine p_nil ?_
   repeat' (first | (refine wn ?_; intro bx hbx; try simp only [fb] at hbx) | ((refine app_buf (ys := [(byteT c.toNat).enc]) hB tfN (asrc_sl tfE) (fun a ha => by simp at ha; subst ha; rw [Term.flat_enc]; rfl) (by simp; omega) (fun v5 σ5 hB5 hx5 => ?_); obtain ⟨w1, w2, w3⟩ := buf_rowT hB5; have j3 : σ5.box b3 = _ := (congrFun hx5 b3).trans f3; have j2 : σ5.box bx = _ := (congrFun hx5 bx).trans f2)) | refine wi ?_ | simp -dsimp only [↓bp, bq, br, seval, tbRefCS3, *] | refine wz ?_ | fail)
   have htk : (bytesT (s.take (i + 1))).map Term.enc = (bytesT (s.take i)).map Term.enc ++ [(byteT c.toNat).enc] := by unfold bytesT; rw [take_succ_get _ _ _ hc, List.map_append, List.map_append]; rfl
   exact ⟨s.length - (i + 1), by omega, i + 1, v5, by omega, rfl, rfl, rfl, by rw [htk]; exact Buf.setT hB5 hb3 _⟩
  ·have : i = s.length := by omega
   subst this
   rw [List.take_length] at hB
   have hlt' : ((s.length : Int) < s.length) = False := eq_false (by omega)
   have hv : Le v (encs (of0 s).items) := by
    have e : (of0 s).items = bytesT s := by show bytesT (s.take 4097) = _; rw [List.take_of_length_le (by omega)]
    rw [e]; exact hB.told
   have hle : Le (.agg [.int .u8 7, .bool false, .nil, .str [], .int .i64 0, v, .nil]) (of0 s).enc := enc_le3 (of0 s) Le.nil hv Le.nil
   have r1 := r0.lessArgs (.cons hle .nil)
   have l2 := hB.le
   have e : ofS s = if right (of0 s) = true then of0 s else zeroT := rfl
   rw [e]
   clear hB r0 hv e
   cases er : right (of0 s) with
   | false =>
    rw [er] at r1
    repeat' (first | (refine wn ?_; intro bx hbx; try simp only [fb] at hbx) | refine wp r1 ?_ | refine wi ?_ | simp -dsimp only [↓bp, bq, br, seval, tbRefCS3, *] | refine wz ?_ | fail)
    exact finish_le (by rw [if_neg Bool.false_ne_true]; exact enc_nil 0 false [] 0) (l2.setBox hb2.1 _)
   | true =>
    rw [er] at r1
    repeat' (first | (refine wn ?_; intro bx hbx; try simp only [fb] at hbx) | refine wp r1 ?_ | refine wi ?_ | simp -dsimp only [↓bp, bq, br, seval, tbRefCS3, *] | refine wz ?_ | fail)
    exact finish_le (by rw [if_pos rfl]; exact hle) (l2.setBox hb2.1 _)
end
section
structure Row1 where
 t : Term
 v : AV
 S : List Nat
 c : Nat
def stF (σ : AS) (L : List Row1) : AS := L.foldl (fun s e => s.setBox e.c (flat e.v)) σ
theorem stF_other : ∀ (L : List Row1) (σ : AS) (b : Nat), b ∉ L.map Row1.c -> (stF σ L).box b = σ.box b
 | [], _, _, _ => rfl
 | e :: L, σ, b, h => by
  simp only [List.map_cons, List.mem_cons, not_or] at h
  show (stF (σ.setBox e.c (flat e.v)) L).box b = _
  rw [stF_other L _ b h.2]
  simp only [AS.setBox, if_neg h.1]
theorem stF_get : ∀ (L : List Row1) (σ : AS), (L.map Row1.c).Nodup -> ∀ e, e ∈ L -> (stF σ L).box e.c = some (flat e.v)
 | [], _, _, e, h => by cases h
 | d :: L, σ, hd, e, h => by
  simp only [List.map_cons, List.nodup_cons] at hd
  rcases List.mem_cons.1 h with rfl | h
  ·show (stF (σ.setBox e.c (flat e.v)) L).box e.c = _
   rw [stF_other L _ _ hd.1]
   exact AS.set_get
  ·exact stF_get L (σ.setBox d.c (flat d.v)) hd.2 e h
theorem stF_le : ∀ (L : List Row1) (σ0 σ : AS), σ0.le σ -> (∀ e, e ∈ L -> σ0.box e.c = none) -> σ0.le (stF σ L)
 | [], _, _, h, _ => h
 | d :: L, σ0, σ, h, hf => stF_le L σ0 (σ.setBox d.c (flat d.v)) (h.setBox (hf d List.mem_cons_self) _) fun e he => hf e (List.mem_cons_of_mem _ he)
theorem ownRs_of {σ : AS} : ∀ (L : List Row1), (∀ e, e ∈ L -> OwnR σ false [e.t] (.bs e.c 1 7 26) (e.c :: e.S)) -> OwnRs σ (L.map fun e => [e.t]) (L.map fun e => .bs e.c 1 7 26) (L.flatMap fun e => e.c :: e.S)
 | [], _ => by simp [OwnRs]
 | e :: L, h => by
  simp only [List.map_cons, List.flatMap_cons, OwnRs]
  exact ⟨_, _, _, _, rfl, rfl, h e List.mem_cons_self, ownRs_of L fun d hd => h d (List.mem_cons_of_mem _ hd)⟩
theorem mem_rows {L : List Row1} {b : Nat} : b ∈ (L.flatMap fun e => e.c :: e.S) ↔ b ∈ L.map Row1.c \/ b ∈ L.flatMap Row1.S := by
 simp only [List.mem_flatMap, List.mem_map, List.mem_cons]
 constructor
 ·rintro ⟨e, he, rfl | h⟩
  ·exact .inl ⟨e, he, rfl⟩
  ·exact .inr ⟨e, he, h⟩
 ·rintro (⟨e, he, rfl⟩ | ⟨e, he, h⟩)
  ·exact ⟨e, he, .inl rfl⟩
  ·exact ⟨e, he, .inr h⟩
theorem rows_nodup : ∀ (L : List Row1), (L.map Row1.c).Nodup -> (L.flatMap Row1.S).Nodup -> (∀ c, c ∈ L.map Row1.c -> c ∉ L.flatMap Row1.S) -> (L.flatMap fun e => e.c :: e.S).Nodup
 | [], _, _, _ => by simp
 | e :: L, h1, h2, h3 => by
  simp only [List.map_cons, List.nodup_cons] at h1
  simp only [List.flatMap_cons] at h2 h3 ⊢
  obtain ⟨a1, a2, a3⟩ := List.nodup_append.1 h2
  have ih := rows_nodup L h1.2 a2 fun c hc hm => h3 c (List.mem_cons_of_mem _ hc) (List.mem_append_right _ hm)
  refine List.nodup_append.2 ⟨List.nodup_cons.2 ⟨fun h => h3 e.c (by simp) (List.mem_append_left _ h), a1⟩, ih, fun a ha b hb eq => ?_⟩
  subst eq
  rcases List.mem_cons.1 ha with rfl | ha
  ·rcases mem_rows.1 hb with hb | hb
   ·exact h1.1 hb
   ·exact h3 e.c (by simp) (List.mem_append_right _ hb)
  ·rcases mem_rows.1 hb with hb | hb
   ·exact h3 a (List.mem_cons_of_mem _ hb) (List.mem_append_left _ ha)
   ·exact a3 a ha a hb rfl
theorem rows_own {σ : AS} (L : List Row1) (ho : ∀ e, e ∈ L -> OwnT σ false e.t e.v e.S) (hc : (L.map Row1.c).Nodup) (hf : ∀ e, e ∈ L -> σ.box e.c = none) (hS : (L.flatMap Row1.S).Nodup) :
  OwnRs (stF σ L) (L.map fun e => [e.t]) (L.map fun e => .bs e.c 1 7 26) (L.flatMap fun e => e.c :: e.S) /\ (L.flatMap fun e => e.c :: e.S).Nodup := by
 have hnot : ∀ c, c ∈ L.map Row1.c -> c ∉ L.flatMap Row1.S := fun c hcm hs => by
  obtain ⟨e, he, rfl⟩ := List.mem_map.1 hcm
  obtain ⟨d, hd, hd2⟩ := List.mem_flatMap.1 hs
  obtain ⟨z, hz⟩ := ownT_on _ _ _ (ho d hd) _ hd2
  rw [hf e he] at hz; cases hz
 refine ⟨ownRs_of L fun e he => ownR_single (ownT_keep _ _ _ (ho e he) fun b hb => stF_other L σ b fun hm => hnot b hm (List.mem_flatMap.2 ⟨e, he, hb⟩)) (stF_get L σ hc e he), rows_nodup L hc hS hnot⟩
end
end Go.Proofs.YtdhbdhopnpmboaaGreatDoor
