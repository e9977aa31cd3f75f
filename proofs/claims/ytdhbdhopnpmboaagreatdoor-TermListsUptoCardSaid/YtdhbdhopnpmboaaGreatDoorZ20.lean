/- Terms put together: the answer is in memory of its own. -/
import Derived.Test.YtdhbdhopnpmboaaGreatDoorZ17
import Derived.Test.YtdhbdhopnpmboaaGreatDoorZ19
import Derived.Test.YtdhbdhopnpmboaaGreatDoorZ11
import Derived.Test.YtdhbdhopnpmboaaGreatDoorZ08
import Derived.Test.YtdhbdhopnpmboaaGreatDoorZ07
import Derived.Test.YtdhbdhopnpmboaaGreatDoorZ12
set_option linter.unusedVariables false
set_option linter.unusedSimpArgs false
set_option maxRecDepth 20000
set_option linter.defProp false
namespace Go.Proofs.YtdhbdhopnpmboaaGreatDoor
open Go Go.Av
section
def tbConsO := And.intro (And.intro (And.intro (And.intro @tf3 (And.intro @tf4 @tf5)) (And.intro @tf47 (And.intro @tf9 @tf23))) (And.intro (And.intro @tf22 (And.intro @tf24 @tf26)) (And.intro @tf36 (And.intro @Term.flat_enc @Term.isv_enc)))) (And.intro (And.intro (And.intro @Term.fold_enc (And.intro @isv_encs @flat_encs)) (And.intro @len_encs (And.intro @ix_encs @ix_encs'))) (And.intro (And.intro @isv_lims (And.intro @flat_lims @len_lims)) (And.intro @ix_lims (And.intro @ix_lims' @flat_limA))))
variable (G : Nat -> AV)
def OwnR' (l : List Term) : Slot := fun σ v S => OwnR σ false l v S
theorem keeps_ownR (l : List Term) : Keeps (OwnR' l) := fun _ _ v S h hk => h.keep hk
def TOwn (G : Nat -> AV) (f : FuncId) (args : List AV) (x : Term) : Prop := ∀ σ, Tri Tryz.prog G f args σ fun r σ' => ∃ S, OwnT σ' false x r S /\ NewS σ σ' S
def ROwn (G : Nat -> AV) (f : FuncId) (args : List AV) (l : List Term) : Prop := ∀ σ, Tri Tryz.prog G f args σ fun r σ' => ∃ S, OwnR σ' false l r S /\ NewS σ σ' S
theorem ownT_zero {σ : AS} : OwnT σ false zeroT (.agg [.int .u8 0, .bool false, .nil, .str [], .int .i64 0, .nil, .nil]) [] := by
 rw [ownT_eq]
 exact ⟨.nil, .nil, .nil, [], [], [], rfl, rfl, .inl ⟨rfl, rfl, rfl, rfl⟩, .inl ⟨rfl, rfl, rfl, rfl⟩, .inl ⟨rfl, rfl, rfl, rfl⟩⟩
theorem NewS.none {σ σ' : AS} (h : σ.le σ') : NewS σ σ' [] := ⟨h, by simp, by simp, by simp⟩
theorem copiesA_own (h : Term) (hh : h.bulk <= 300000000) : ROwn G 50 [.sl .full [.sl .full [h.enc] []] []] [h] := fun σ => by
 have h1 := Tri.weaken (args := [.sl .full [.sl .full [h.enc] []] []]) (.cons (Le.sl (.cons (leE_of_full [h]) .nil)) .nil) (copies_own G [[h]] (by simp) (by simp) (fun x hx => by simp at hx; subst hx; exact copy_own G x (by omega)) σ)
 simpa using h1
theorem copiesB_own (h : Term) (l : List Term) (hh : h.bulk <= 300000000) (hb : bulks l <= 300000000) : ROwn G 50 [.sl .full [.sl .full [h.enc] [], encs l] []] (h :: l) := fun σ => by
 have hl := len_le_bulks l
 have h1 := Tri.weaken (args := [.sl .full [.sl .full [h.enc] [], encs l] []]) (.cons (Le.sl (.cons (leE_of_full [h]) (.cons (LeE.of (Le.refl _) rfl rfl rfl) .nil))) .nil) (copies_own G [[h], l] (by simp) (by simp; omega) (fun x hx => by
  simp at hx
  rcases hx with rfl | hx
  ·exact copy_own G _ (by omega)
  ·exact copy_own G x (by have := bulk_mem hx; omega)) σ)
 simpa using h1
theorem copiesC_own (l : List Term) (hb : bulks l <= 300000000) : ROwn G 50 [.sl .full [encs l] []] l := fun σ => copies1_own G l (by have := len_le_bulks l; omega) (fun x hx => copy_own G x (by have := bulk_mem hx; omega)) σ
theorem consBad_own (h t : Term) (hh : h.bulk <= 300000000) (ht : t.bulk <= 300000000) (hr : right h = false \/ right t = false) : TOwn G 20 [h.enc, t.enc] zeroT := by
 have rh := right_pure G h (by omega)
 have rt := right_pure G t (by omega)
 intro σ
 rcases hr with hr | hr
 ·rw [hr] at rh
  refine Tri.of_awp mixed Tryz.func20 rfl (by kernel_rfl) (by kernel_rfl) (by simp [Tryz.ntmps20]) Tryz.results20 ?_
  repeat' (first | refine xs ?_ ?_ <;> intros | (refine wn ?_; intro bx hbx; try simp only [fb] at hbx) | refine wp rh ?_ | refine wp rt ?_ | refine wj ?_ | simp -dsimp only [↓bp, bq, br, seval, tbConsO, *] | refine wz ?_ | fail)
  exact finishW_some _ (AS.le.refl _) ⟨[], ownT_zero, NewS.none (by repeat' first | exact lr _ | assumption | refine ls ?_ ?_ | refine lt ?_ ?_ | simp only [*]; done | simp only [fb, *, not_false_eq_true, and_self]; done | exact lf ‹_› (by simp only [*]))⟩
 ·cases eh : right h
  all_goals
   rw [hr] at rt
   rw [eh] at rh
   refine Tri.of_awp mixed Tryz.func20 rfl (by kernel_rfl) (by kernel_rfl) (by simp [Tryz.ntmps20]) Tryz.results20 ?_
   repeat' (first | refine xs ?_ ?_ <;> intros | (refine wn ?_; intro bx hbx; try simp only [fb] at hbx) | refine wp rh ?_ | refine wp rt ?_ | refine wj ?_ | simp -dsimp only [↓bp, bq, br, seval, tbConsO, *] | refine wz ?_ | fail)
  all_goals exact finishW_some _ (AS.le.refl _) ⟨[], ownT_zero, NewS.none (by repeat' first | exact lr _ | assumption | refine ls ?_ ?_ | refine lt ?_ ?_ | simp only [*]; done | simp only [fb, *, not_false_eq_true, and_self]; done | exact lf ‹_› (by simp only [*]))⟩
def ListI (l r : List Term) (σ s : AS) (x : AV) : Prop := ∃ b vi vt A B, x = .ptr b 0 /\ NewS σ s (b :: (A ++ B)) /\ s.box b = some [.int .u8 7, .bool false, .nil, .str [], .int .i64 0, vi, vt] /\ OwnR s false l vi A /\ OwnR s false r vt B
theorem ownT_list {s : AS} {l r : List Term} {vi vt : AV} {A B : List Nat} (h1 : OwnR s false l vi A) (h2 : OwnR s false r vt B) : OwnT s false (listT l r) (.agg [.int .u8 7, .bool false, .nil, .str [], .int .i64 0, vi, vt]) (A ++ B) := by
 rw [ownT_eq]
 exact ⟨.nil, vi, vt, [], A, B, rfl, rfl, .inl ⟨rfl, rfl, rfl, rfl⟩, h1, h2⟩
set_option maxHeartbeats 4000000 in
theorem consGood_own (h t : Term) (hh : h.bulk <= 300000000) (ht : t.bulk <= 300000000) (rh : Pure Tryz.prog G 9 [h.enc] (.bool true)) (rt : Pure Tryz.prog G 9 [t.enc] (.bool true)) : TOwn G 20 [h.enc, t.enc] (if right (cons0 h t) = true then cons0 h t else zeroT) := by
 have ca := copiesA_own G h hh
 have cb := copiesA_own G t ht
 intro σ
 refine Tri.of_awp mixed Tryz.func20 rfl (by kernel_rfl) (by kernel_rfl) (by simp [Tryz.ntmps20]) Tryz.results20 ?_
 repeat' (first | (refine wn ?_; intro bx hbx; try simp only [fb] at hbx) | refine wp rh ?_ | refine wp rt ?_ | refine wi ?_ | simp -dsimp only [↓bp, bq, br, seval, tbConsO, *] | refine wz ?_ | fail)
 rename_i b2 hb2 b3 hb3
 obtain ⟨⟨e1, e2, e3⟩, e4, e5⟩ := hbx
 obtain ⟨hb3, e6, e7⟩ := hb3
 obtain ⟨S0, hS0⟩ : ∃ S0 : AS, S0 = ((σ.setBox b2 [.int .u8 h.knd, .bool h.neg, lims h.limbs, .str h.text, .int .i64 h.num, encs h.items, encs h.tail]).setBox b3 [.int .u8 t.knd, .bool t.neg, lims t.limbs, .str t.text, .int .i64 t.num, encs t.items, encs t.tail]).setBox bx [.int .u8 0, .bool false, .nil, .str [], .int .i64 0, .nil, .nil] := ⟨_, rfl⟩
 have l0 : σ.le S0 := by rw [hS0]; exact (((AS.le.refl σ).setBox hb2.1 _).setBox hb3.1 _).setBox e1.1 _
 have f2 : S0.box b2 = some [.int .u8 h.knd, .bool h.neg, lims h.limbs, .str h.text, .int .i64 h.num, encs h.items, encs h.tail] := by rw [hS0]; simp only [AS.setBox, if_neg e3, if_neg e7, if_true]
 have f3 : S0.box b3 = some [.int .u8 t.knd, .bool t.neg, lims t.limbs, .str t.text, .int .i64 t.num, encs t.items, encs t.tail] := by rw [hS0]; simp only [AS.setBox, if_neg e5, if_true]
 have f4 : S0.box bx = some [.int .u8 0, .bool false, .nil, .str [], .int .i64 0, .nil, .nil] := by rw [hS0]; exact AS.set_get
 have f4' := f4
 have y4 : σ.box bx = none := e1.1
 rw [<- hS0]
 clear hS0 hb2 hb3 e1 e2 e3 e4 e5 e6 e7 rh rt
 refine draw_meet mixed (fun ev s => ListI [h] [t] S0 s (ev 5)) ?_ ?_
 ·refine draw_ownV 10 (fun k => [15, 16, 17, 18, 19, 20, 21, 22, 23, 5].getD k 0) (fun k => if k = 8 then [3, 7] else []) (fun k V => match k with | 0 => isV h.enc | 1 => isV (.sl .full [h.enc] []) | 2 => isV (.sl .full [.sl .full [h.enc] []] []) | 3 => OwnR' [h] | 4 => isV t.enc | 5 => isV (.sl .full [t.enc] []) | 6 => isV (.sl .full [.sl .full [t.enc] []] []) | 7 => OwnR' [t] | 8 => isV (.agg [.int .u8 7, .bool false, .nil, .str [], .int .i64 0, V 3, V 7]) | _ => isB [.int .u8 0, .bool false, .nil, .str [], .int .i64 0, .nil, .nil]) (by decide +kernel) (by decide) (by decide) ?_ ?_ rfl rfl ?_ ?_
  ·intro k V
   match k with
   | 0 | 1 | 2 | 4 | 5 | 6 | 8 => exact keeps_isV _
   | 3 | 7 => exact keeps_ownR _
   | k + 9 => exact keeps_isB _
  ·intro k V V' s v S hd hq
   match k, hd, hq with
   | 0, _, hq | 1, _, hq | 2, _, hq | 3, _, hq | 4, _, hq | 5, _, hq | 6, _, hq | 7, _, hq => exact hq
   | 8, hd, hq => rw [hd 3 (by simp), hd 7 (by simp)] at hq; exact hq
   | k + 9, _, hq => exact hq
  ·refine ⟨.inl ⟨rfl, rfl, fun ev s hs hw hf => ?_⟩, .inl ⟨rfl, rfl, fun ev s hs hw hf => ?_⟩, .inl ⟨rfl, rfl, fun ev s hs hw hf => ?_⟩, .inl ⟨rfl, rfl, fun ev s hs hw hf => ?_⟩, .inl ⟨rfl, rfl, fun ev s hs hw hf => ?_⟩, .inl ⟨rfl, rfl, fun ev s hs hw hf => ?_⟩, .inl ⟨rfl, rfl, fun ev s hs hw hf => ?_⟩, .inl ⟨rfl, rfl, fun ev s hs hw hf => ?_⟩, .inl ⟨rfl, by decide +kernel, fun ev s hs hw hf => ?_⟩, .inl ⟨rfl, rfl, fun ev s hs hw hf => ?_⟩, trivial⟩
   ·have h0 := hf 2 (by decide)
    have hb := hs.box _ _ f2
    simp -dsimp only [↓bp, bq, br, seval, tbConsO] at h0
    simp -dsimp only [↓bp, bq, br, seval, tbConsO, h0, hb]
    exact ⟨[], NewS.refl _, rfl, rfl⟩
   ·obtain ⟨A, h0, _⟩ := hw 0 (by decide +kernel)
    replace h0 : ev 15 = h.enc := h0
    repeat' (first | (refine wn ?_; intro bx hbx; try simp only [fb] at hbx) | refine wi ?_ | simp -dsimp only [↓bp, bq, br, seval, tbConsO, *] | refine wz ?_ | fail)
    exact ⟨[], NewS.refl _, rfl, rfl⟩
   ·obtain ⟨A, h0, _⟩ := hw 1 (by decide +kernel)
    replace h0 : ev 16 = .sl .full [h.enc] [] := h0
    repeat' (first | (refine wn ?_; intro bx hbx; try simp only [fb] at hbx) | refine wi ?_ | simp -dsimp only [↓bp, bq, br, seval, tbConsO, *] | refine wz ?_ | fail)
    exact ⟨[], NewS.refl _, rfl, rfl⟩
   ·obtain ⟨A, h0, _⟩ := hw 2 (by decide +kernel)
    replace h0 : ev 17 = .sl .full [.sl .full [h.enc] []] [] := h0
    simp -dsimp only [↓bp, bq, br, seval, tbConsO, h0]
    refine Tri.mono (ca s) ?_
    rintro r s' ⟨S', a, b⟩
    exact ⟨S', b, a⟩
   ·have h0 := hf 3 (by decide)
    have hb := hs.box _ _ f3
    simp -dsimp only [↓bp, bq, br, seval, tbConsO] at h0
    simp -dsimp only [↓bp, bq, br, seval, tbConsO, h0, hb]
    exact ⟨[], NewS.refl _, rfl, rfl⟩
   ·obtain ⟨A, h0, _⟩ := hw 4 (by decide +kernel)
    replace h0 : ev 19 = t.enc := h0
    repeat' (first | (refine wn ?_; intro bx hbx; try simp only [fb] at hbx) | refine wi ?_ | simp -dsimp only [↓bp, bq, br, seval, tbConsO, *] | refine wz ?_ | fail)
    exact ⟨[], NewS.refl _, rfl, rfl⟩
   ·obtain ⟨A, h0, _⟩ := hw 5 (by decide +kernel)
    replace h0 : ev 20 = .sl .full [t.enc] [] := h0
    repeat' (first | (refine wn ?_; intro bx hbx; try simp only [fb] at hbx) | refine wi ?_ | simp -dsimp only [↓bp, bq, br, seval, tbConsO, *] | refine wz ?_ | fail)
    exact ⟨[], NewS.refl _, rfl, rfl⟩
   ·obtain ⟨A, h0, _⟩ := hw 6 (by decide +kernel)
    replace h0 : ev 21 = .sl .full [.sl .full [t.enc] []] [] := h0
    simp -dsimp only [↓bp, bq, br, seval, tbConsO, h0]
    refine Tri.mono (cb s) ?_
    rintro r s' ⟨S', a, b⟩
    exact ⟨S', b, a⟩
   ·obtain ⟨A, h18⟩ := hw 3 (by decide +kernel)
    obtain ⟨B, h22⟩ := hw 7 (by decide +kernel)
    replace h18 : OwnR s false [h] (ev 18) A := h18
    replace h22 : OwnR s false [t] (ev 22) B := h22
    obtain ⟨u1, u2, u3⟩ := h18.one
    obtain ⟨u4, u5, u6⟩ := h22.one
    repeat' (first | (refine wn ?_; intro bx hbx; try simp only [fb] at hbx) | refine wi ?_ | simp -dsimp only [↓bp, bq, br, seval, tbConsO, *] | refine wz ?_ | fail)
    exact ⟨[], NewS.refl _, rfl, rfl⟩
   ·simp -dsimp only [↓bp, bq, br, seval, tbConsO]
    refine newT_plain fun b hb => ⟨[b], NewS.one hb _, b, rfl, rfl, AS.set_get⟩
  ·intro F ev s hF hQ hf
   have h1 : OwnR s false [h] (ev 18) (F 3) := hQ 3 (by omega)
   have h2 : OwnR s false [t] (ev 22) (F 7) := hQ 7 (by omega)
   have h3 : ev 23 = .agg [.int .u8 7, .bool false, .nil, .str [], .int .i64 0, ev 18, ev 22] := (hQ 8 (by omega)).1
   obtain ⟨b5, h5, e5, n5⟩ : isB [.int .u8 0, .bool false, .nil, .str [], .int .i64 0, .nil, .nil] s (ev 5) (F 9) := hQ 9 (by omega)
   generalize ev 18 = vi at *
   generalize ev 22 = vt at *
   obtain ⟨u1, u2, u3⟩ := h1.one
   obtain ⟨u4, u5, u6⟩ := h2.one
   have hk : ∀ C b, (b ∈ F 3 \/ b ∈ F 7) -> (s.setBox b5 C).box b = s.box b := fun C b hb => by
    have n7 : b ≠ b5 := fun e => by rcases hb with hb | hb <;> (have := hF.dj _ 9 b hb (by rw [e5, e]; simp); omega)
    simp only [AS.setBox, if_neg n7]
   have h5m : b5 ∈ F 9 := by rw [e5]; simp
   clear hf hQ ca cb
   repeat' (first | (refine wn ?_; intro bx hbx; try simp only [fb] at hbx) | refine wi ?_ | simp -dsimp only [↓bp, bq, br, seval, tbConsO, *] | refine wz ?_ | fail)
   refine ⟨b5, vi, vt, F 3, F 7, rfl, ⟨hF.le.setBox (hF.fr 9 b5 h5m).1 _, fun b hb => ?_, ?_, fun b hb => ?_⟩, AS.set_get, h1.keep fun b hb => hk _ b (.inl hb), h2.keep fun b hb => hk _ b (.inr hb)⟩
   ·rcases List.mem_cons.1 hb with rfl | hb
    ·exact hF.fr 9 b h5m
    rcases List.mem_append.1 hb with hb | hb
    ·exact hF.fr 3 b hb
    ·exact hF.fr 7 b hb
   ·refine List.nodup_cons.2 ⟨fun h => ?_, List.nodup_append.2 ⟨hF.nd 3, hF.nd 7, fun a ha b hb e => ?_⟩⟩
    ·rcases List.mem_append.1 h with h | h <;> (have := hF.dj _ 9 b5 h h5m; omega)
    ·subst e; have := hF.dj 3 7 a ha hb; omega
   ·rcases List.mem_cons.1 hb with rfl | hb
    ·exact ⟨_, AS.set_get⟩
    rcases List.mem_append.1 hb with hb | hb
    ·rw [hk _ b (.inl hb)]; exact hF.on 3 b hb
    ·rw [hk _ b (.inr hb)]; exact hF.on 7 b hb
 intro v s5 h5
 obtain ⟨b5, vi, vt, A, B, h5, hN, n5, oI, oT⟩ := h5
 simp -dsimp only [↓bp, bq, br, seval, tbConsO] at h5
 replace f2 := hN.le.box _ _ f2
 replace f3 := hN.le.box _ _ f3
 replace f4 := hN.le.box _ _ f4
 have l5 := l0.trans hN.le
 by_cases h7 : t.knd = 7
 ·have k7 := eq_true h7
  have cc := copiesB_own G h t.items hh (by have := t.bulk_eq; omega)
  have cd := copiesC_own G t.tail (by have := t.bulk_eq; omega)
  have hc0 : cons0 h t = listT (h :: t.items) t.tail := by unfold cons0; rw [if_pos h7]
  have hbk : (cons0 h t).bulk <= 1000000000 := by have := cons0_bulk h t; omega
  obtain ⟨u1, u2, u3⟩ := oI.one
  obtain ⟨u4, u5, u6⟩ := oT.one
  clear oI oT ca cb h7
  have n5f := (hN.fr b5 (by simp)).1
  have n54 : b5 ≠ bx := fun e => by rw [e, f4'] at n5f; cases n5f
  have y5 : σ.box b5 = none := l0.noBox n5f
  clear hN f4'
  repeat' (first | (refine wn ?_; intro bx hbx; try simp only [fb] at hbx) | refine wi ?_ | simp -dsimp only [↓bp, bq, br, seval, tbConsO, *] | refine wz ?_ | fail)
  refine draw_perm 11 [0, 1, 2, 3, 4, 6, 7, 8, 5, 10, 9] (by decide +kernel) rfl ?_
  intro hinf
  refine p_read (v := h.enc) rfl rfl (by simp only [rdv]; simp -dsimp only [↓bp, bq, br, seval, tbConsO, *]) ?_
  refine p_read (v := .sl .full [h.enc] []) rfl rfl (by simp only [rdv]; simp -dsimp only [↓bp, bq, br, seval, tbConsO]; exact abs_one tfN (Term.isv_enc h) (by rw [Term.flat_enc]; rfl) (by omega)) ?_
  refine p_read (v := .ptr b3 5) rfl rfl (by simp only [rdv]; simp -dsimp only [↓bp, bq, br, seval, tbConsO, *]) ?_
  refine p_read (v := encs t.items) rfl rfl (by simp only [rdv]; simp -dsimp only [↓bp, bq, br, seval, tbConsO, *]) ?_
  refine p_read (v := .sl .full [.sl .full [h.enc] [], encs t.items] []) rfl rfl (by simp only [rdv]; simp -dsimp only [↓bp, bq, br, seval, tbConsO]; exact abs_two tfRR rfl rfl (isv_encs _) (by rw [flat_encs]; rfl) (by omega)) ?_
  refine p_read (v := .ptr b3 6) rfl rfl (by simp only [rdv]; simp -dsimp only [↓bp, bq, br, seval, tbConsO, *]) ?_
  refine p_read (v := encs t.tail) rfl rfl (by simp only [rdv]; simp -dsimp only [↓bp, bq, br, seval, tbConsO, *]) ?_
  refine p_read (v := .sl .full [encs t.tail] []) rfl rfl (by simp only [rdv]; simp -dsimp only [↓bp, bq, br, seval, tbConsO]; exact abs_encs _) ?_
  refine p_seq rfl rfl ?_
  simp -dsimp only [↓bp, bq, br, seval, tbConsO]
  refine Tri.mono (Tri.inf G (cc _)) ?_
  rintro xi s6 ⟨⟨SI, hI, nI⟩, i1⟩
  refine ⟨nI.le, i1, ?_⟩
  obtain ⟨a1, a2, a3⟩ := hI.one
  refine p_read (v := .ptr b5 5) rfl rfl (by simp only [rdv]; simp -dsimp only [↓bp, bq, br, seval, tbConsO, *]) ?_
  refine p_seq rfl rfl ?_
  simp -dsimp only [↓bp, bq, br, seval, tbConsO]
  refine Tri.mono (Tri.inf G (cd _)) ?_
  rintro xt s7 ⟨⟨ST, hT, nT⟩, i2⟩
  refine ⟨nT.le, i2, ?_⟩
  obtain ⟨a4, a5, a6⟩ := hT.one
  have g5 := nT.le.box _ _ (nI.le.box _ _ n5)
  have g4 := nT.le.box _ _ (nI.le.box _ _ f4)
  have N7 := nI.more nT.fr nT.nd (nI.le.trans nT.le) fun b hb => by
   rcases List.mem_append.1 hb with hb | hb
   ·obtain ⟨z, hz⟩ := nI.on b hb; exact ⟨z, nT.le.box _ _ hz⟩
   ·exact nT.on b hb
  have hI7 := hI.keep (same_le nT.le nI.on)
  have hO7 := ownT_list hI7 hT
  rw [<- hc0] at hO7
  have hn5 : ∀ b, b ∈ SI ++ ST -> b ≠ b5 /\ b ≠ bx := fun b hb => by
   have := (N7.fr b hb).1
   exact ⟨fun e => (by rw [e, n5] at this; cases this), fun e => (by rw [e, f4] at this; cases this)⟩
  clear hI hT hI7 cc cd f2 f3 hc0 i1 i2 hinf nT nI
  refine p_nil ?_
  have rr : PureC Tryz.prog G 9 [.agg [.int .u8 7, .bool false, .nil, .str [], .int .i64 0, xi, xt]] (s7.setBox b5 [.int .u8 7, .bool false, .nil, .str [], .int .i64 0, xi, xt]) (.bool (right (cons0 h t))) := fun σ' hl => (right_pure G (cons0 h t) hbk).lend (σ := σ') rfl (.cons (own_lend_term (ownT_keep _ _ _ hO7 fun b hb => by
   obtain ⟨z, hz⟩ := N7.on b hb
   rw [hz]
   exact hl.box _ _ (set_other hz (hn5 b hb).1))) .nil)
  have l7 := l5.trans N7.le
  have n45 : (bx = b5) = False := eq_false (Ne.symm n54)
  cases er : right (cons0 h t) with
  | false =>
   rw [er] at rr
   repeat' (first | (refine wn ?_; intro bx hbx; try simp only [fb] at hbx) | refine PureC.use (rr) (by repeat' first | exact lr _ | assumption | refine ls ?_ ?_ | refine lt ?_ ?_ | simp only [*]; done | simp only [fb, *, not_false_eq_true, and_self]; done | exact lf ‹_› (by simp only [*])) ?_ | refine wi ?_ | simp -dsimp only [↓bp, bq, br, seval, tbConsO, *] | refine wz ?_ | fail)
   exact finishW_some _ (AS.le.refl _) ⟨[], by rw [if_neg Bool.false_ne_true]; exact ownT_zero, NewS.none ((l7.setBox y5 _).setBox y4 _)⟩
  | true =>
   rw [er] at rr
   repeat' (first | (refine wn ?_; intro bx hbx; try simp only [fb] at hbx) | refine PureC.use (rr) (by repeat' first | exact lr _ | assumption | refine ls ?_ ?_ | refine lt ?_ ?_ | simp only [*]; done | simp only [fb, *, not_false_eq_true, and_self]; done | exact lf ‹_› (by simp only [*])) ?_ | refine wi ?_ | simp -dsimp only [↓bp, bq, br, seval, tbConsO, *] | refine wz ?_ | fail)
   refine finishW_some _ (AS.le.refl _) ⟨SI ++ ST, by rw [if_pos rfl]; exact ownT_keep _ _ _ hO7 fun b hb => by simp only [AS.setBox, if_neg (hn5 b hb).1, if_neg (hn5 b hb).2], (l7.setBox y5 _).setBox y4 _, fun b hb => ?_, N7.nd, fun b hb => ?_⟩
   ·have := N7.fr b hb
    exact ⟨l5.noBox this.1, le_noTip l5 this.2⟩
   ·obtain ⟨z, hz⟩ := N7.on b hb
    exact ⟨z, set_other (set_other hz (hn5 b hb).1) (hn5 b hb).2⟩
 ·have k7 := eq_false h7
  have hO := ownT_list oI oT
  have hc0 : cons0 h t = listT [h] [t] := by unfold cons0; rw [if_neg h7]
  rw [<- hc0] at hO
  have hbk : (cons0 h t).bulk <= 1000000000 := by have := cons0_bulk h t; omega
  have hon : ∀ b, b ∈ A ++ B -> ∃ z, s5.box b = some z := fun b hb => hN.on b (List.mem_cons_of_mem _ hb)
  have rr : PureC Tryz.prog G 9 [.agg [.int .u8 7, .bool false, .nil, .str [], .int .i64 0, vi, vt]] s5 (.bool (right (cons0 h t))) := fun σ' hl => (right_pure G (cons0 h t) hbk).lend (σ := σ') rfl (.cons (own_lend_term (ownT_keep _ _ _ hO (same_le hl hon))) .nil)
  obtain ⟨u1, u2, u3⟩ := oI.one
  obtain ⟨u4, u5, u6⟩ := oT.one
  have n54 : b5 ≠ bx := fun e => by have := (hN.fr b5 (by simp)).1; rw [e, f4'] at this; cases this
  cases er : right (cons0 h t) with
  | false =>
   rw [er] at rr
   clear hc0 h7
   repeat' (first | (refine wn ?_; intro bx hbx; try simp only [fb] at hbx) | refine PureC.use (rr) (by repeat' first | exact lr _ | assumption | refine ls ?_ ?_ | refine lt ?_ ?_ | simp only [*]; done | simp only [fb, *, not_false_eq_true, and_self]; done | exact lf ‹_› (by simp only [*])) ?_ | refine wi ?_ | simp -dsimp only [↓bp, bq, br, seval, tbConsO, *] | refine wz ?_ | fail)
   exact finishW_some _ (AS.le.refl _) ⟨[], by rw [if_neg Bool.false_ne_true]; exact ownT_zero, NewS.none (l5.setBox y4 _)⟩
  | true =>
   rw [er] at rr
   clear hc0 h7
   repeat' (first | (refine wn ?_; intro bx hbx; try simp only [fb] at hbx) | refine PureC.use (rr) (by repeat' first | exact lr _ | assumption | refine ls ?_ ?_ | refine lt ?_ ?_ | simp only [*]; done | simp only [fb, *, not_false_eq_true, and_self]; done | exact lf ‹_› (by simp only [*])) ?_ | refine wi ?_ | simp -dsimp only [↓bp, bq, br, seval, tbConsO, *] | refine wz ?_ | fail)
   have hx : ∀ b, b ∈ A ++ B -> b ≠ bx := fun b hb e => by have := (hN.fr b (List.mem_cons_of_mem _ hb)).1; rw [e, f4'] at this; cases this
   refine finishW_some _ (AS.le.refl _) ⟨A ++ B, by rw [if_pos rfl]; exact ownT_keep _ _ _ hO fun b hb => by simp only [AS.setBox, if_neg (hx b hb)], l5.setBox y4 _, fun b hb => ?_, (List.nodup_cons.1 hN.nd).2, fun b hb => ?_⟩
   ·have := hN.fr b (List.mem_cons_of_mem _ hb)
    exact ⟨l0.noBox this.1, le_noTip l0 this.2⟩
   ·obtain ⟨z, hz⟩ := hon b hb
    exact ⟨z, set_other hz (hx b hb)⟩
theorem cons_own (h t : Term) (hh : h.bulk <= 300000000) (ht : t.bulk <= 300000000) : TOwn G 20 [h.enc, t.enc] (cons h t) := by
 have rh := right_pure G h (by omega)
 have rt := right_pure G t (by omega)
 cases eh : right h with
 | false => rw [show cons h t = zeroT from cons_bad (by simp [eh])]; exact consBad_own G h t hh ht (.inl eh)
 | true => cases et : right t with
  | false => rw [show cons h t = zeroT from cons_bad (by simp [et])]; exact consBad_own G h t hh ht (.inr et)
  | true =>
   rw [eh] at rh
   rw [et] at rt
   have e : cons h t = if right (cons0 h t) = true then cons0 h t else zeroT := by unfold cons; rw [eh, et]; simp
   rw [e]
   exact consGood_own G h t hh ht rh rt
end
set_option maxRecDepth 20000
section
def tbOfO := And.intro (And.intro (And.intro (And.intro @tf3 (And.intro @tf4 @tf5)) (And.intro (And.intro @tf47 @tf128) (And.intro @tf2 @tf106))) (And.intro (And.intro @tf9 (And.intro @tf23 @tf22)) (And.intro (And.intro @tf24 @tf26) (And.intro @tf36 @Term.flat_enc)))) (And.intro (And.intro (And.intro @Term.isv_enc (And.intro @Term.fold_enc @isv_encs)) (And.intro (And.intro @flat_encs @len_encs) (And.intro @isv_lims @flat_lims))) (And.intro (And.intro (And.intro @len_lims @ix_lims) (And.intro @ix_lims' @flat_limA)) (And.intro (And.intro @ares_cons2 @ares1_tmp) (And.intro @ares1_cell @aresk_some))))
variable (G : Nat -> AV)
def MadeO (T : Term) : Slot := fun σ v S => ∃ x, v = .tup [x, .bool true] /\ OwnT σ false T x S
theorem ownT_int {s : AS} {g : Bool} {l : List UInt32} {v : AV} {S : List Nat} (h : OwnL s false l v S) : OwnT s false (intT g l) (.agg [.int .u8 1, .bool g, v, .str [], .int .i64 0, .nil, .nil]) S := by
 rw [ownT_eq]
 exact ⟨v, .nil, .nil, S, [], [], rfl, by simp, h, .inl ⟨rfl, rfl, rfl, rfl⟩, .inl ⟨rfl, rfl, rfl, rfl⟩⟩
theorem made_own (l : List UInt32) (neg : Bool) (hl : l.length <= 32) (σ : AS) : Tri Tryz.prog G 77 [lims l, .bool neg] σ fun r s => ∃ S, MadeO (intT (neg && decide (0 < ((strip l).length : Int))) (strip l)) s r S /\ NewS σ s S := by
 have hc : ∀ m : List UInt32, m.length <= 1000000000 -> ∀ s, Tri Tryz.prog G 49 [lims m] s fun r s' => ∃ S, OwnL s' false m r S /\ NewS s s' S := fun m hm s => cloneL_own G m hm s
 refine Tri.of_awp mixed Tryz.func77 rfl (by kernel_rfl) (by kernel_rfl) (by simp [Tryz.ntmps77]) Tryz.results77 ?_
 repeat' (first | refine xs ?_ ?_ <;> intros | (refine wn ?_; intro bx hbx; try simp only [fb] at hbx) | refine wj ?_ | simp -dsimp only [↓bp, bq, br, seval, tbOfO, *] | refine wz ?_ | fail)
 refine loop_intro (fun n e σ' => ∃ m : List UInt32, n = m.length /\ m.length <= l.length /\ strip m = strip l /\ e 0 = lims m /\ σ' = σ.setBox bx [.int .u8 0, .bool false, .nil, .str [], .int .i64 0, .nil, .nil]) l.length ⟨l, rfl, Nat.le_refl _, rfl, by first | (simp -dsimp only [↓bp, bq, br, seval, tbOfO]; done) | (simp -dsimp only [↓bp, bq, br, seval, tbOfO]; try rfl), rfl⟩ ?_
 rintro n v σ' ⟨m, rfl, hml, hst, h0, rfl⟩
 simp -dsimp only [↓bp, bq, br, seval, tbOfO] at h0
 rcases List.eq_nil_or_concat m with rfl | ⟨m', x, rfl⟩
 ·have hs : strip l = [] := by rw [<- hst]; rfl
  have hcm := hc [] (by simp)
  have hlz : (([] : List UInt32).length : Int) = 0 := rfl
  have hd : (neg && decide (0 < (([] : List UInt32).length : Int))) = false := by cases neg <;> rfl
  rw [hs, hd]
  generalize hnil : ([] : List UInt32) = q at *
  clear hc hs hst hml hd
  repeat' (first | refine xs ?_ ?_ <;> intros | (refine wn ?_; intro bx hbx; try simp only [fb] at hbx) | ((refine Tri.mono (hcm _) ?_; rintro vc s2 ⟨S, hL, nL⟩; obtain ⟨a1, a2, a3⟩ := hL.one; have hr := nL.le.box _ _ (AS.set_get (σ := σ) (b := bx) (cs := [.int .u8 0, .bool false, .nil, .str [], .int .i64 0, .nil, .nil])))) | refine wj ?_ | simp -dsimp only [↓bp, bq, br, seval, tbOfO, hlz, *] | refine wz ?_ | fail)
  all_goals
   have hne : ∀ b, b ∈ S -> b ≠ bx := fun b hb e => by have := (nL.fr b hb).1; rw [e, AS.set_get] at this; cases this
   have hl1 : σ.le s2 := ((AS.le.refl σ).setBox hbx.1 _).trans nL.le
   refine finishW_some _ (AS.le.refl _) ⟨S, ⟨_, rfl, ownT_int (hL.keep fun b hb => by simp only [AS.setBox, if_neg (hne b hb)])⟩, hl1.setBox hbx.1 _, fun b hb => ⟨(set_none (nL.fr b hb).1).2, (nL.fr b hb).2⟩, nL.nd, fun b hb => ?_⟩
   obtain ⟨z, hz⟩ := nL.on b hb
   exact ⟨z, set_other hz (hne b hb)⟩
 ·simp only [List.concat_eq_append] at *
  have hlen : ((m' ++ [x]).length : Int) = m'.length + 1 := by simp
  have hlen' : (m' ++ [x]).length = m'.length + 1 := by simp
  have hw : IntKind.i64.wrap ((m'.length : Int) + 1 - 1) = m'.length := by rw [wrap_nat (by omega) (by omega)]; omega
  have hget : (m' ++ [x])[m'.length]? = some x := by simp
  have htake : (m' ++ [x]).take m'.length = m' := by simp
  have hcm := hc (m' ++ [x]) (by omega)
  have hp : (0 : Int) < m'.length + 1 := by omega
  have hmm : m'.length <= (m' ++ [x]).length := by omega
  by_cases hx : x = 0
  ·subst hx
   rw [strip_zero] at hst
   have hz : ((0 : UInt32).toNat : Int) = 0 := rfl
   have hml' : m'.length <= l.length := by omega
   generalize hq : m' ++ [0] = q at *
   clear hc hml hlen' hcm
   repeat' (first | refine xs ?_ ?_ <;> intros | (refine wn ?_; intro bx hbx; try simp only [fb] at hbx) | refine wj ?_ | simp -dsimp only [↓bp, bq, br, seval, tbOfO, hlen, hw, limA, hz, sl_lims, *] | refine wz ?_ | fail)
   all_goals exact ⟨m'.length, by rw [<- hq]; simp, m', rfl, hml', hst, rfl⟩
  ·have hs : strip l = m' ++ [x] := by rw [<- hst, strip_keep _ _ hx]
   have hz : ¬ (x.toNat : Int) = 0 := fun e => hx (UInt32.toNat_inj.1 (by simpa using e))
   have h32' : ¬ (32 : Int) < m'.length + 1 := by omega
   rw [hs]
   have hd : (neg && decide (0 < ((m' ++ [x]).length : Int))) = neg := by rw [hlen, decide_eq_true hp, Bool.and_true]
   rw [hd]
   generalize hq : m' ++ [x] = q at *
   clear hc hs hst hml hlen' hd
   cases neg
   all_goals
    repeat' (first | refine xs ?_ ?_ <;> intros | (refine wn ?_; intro bx hbx; try simp only [fb] at hbx) | ((refine Tri.mono (hcm _) ?_; rintro vc s2 ⟨S, hL, nL⟩; obtain ⟨a1, a2, a3⟩ := hL.one; have hr := nL.le.box _ _ (AS.set_get (σ := σ) (b := bx) (cs := [.int .u8 0, .bool false, .nil, .str [], .int .i64 0, .nil, .nil])))) | refine wj ?_ | simp -dsimp only [↓bp, bq, br, seval, tbOfO, hlen, hw, limA, hz, sl_lims, *] | refine wz ?_ | fail)
   all_goals
    have hne : ∀ b, b ∈ S -> b ≠ bx := fun b hb e => by have := (nL.fr b hb).1; rw [e, AS.set_get] at this; cases this
    have hl1 : σ.le s2 := ((AS.le.refl σ).setBox hbx.1 _).trans nL.le
    refine finishW_some _ (AS.le.refl _) ⟨S, ⟨_, rfl, ownT_int (hL.keep fun b hb => by simp only [AS.setBox, if_neg (hne b hb)])⟩, hl1.setBox hbx.1 _, fun b hb => ⟨(set_none (nL.fr b hb).1).2, (nL.fr b hb).2⟩, nL.nd, fun b hb => ?_⟩
    obtain ⟨z, hz⟩ := nL.on b hb
    exact ⟨z, set_other hz (hne b hb)⟩
def byteT (n : Nat) : Term := intT false (strip [UInt32.ofNat n, 0])
set_option maxHeartbeats 4000000 in
theorem ofw_own (N : Nat) (hN : N < 256) : TOwn G 62 [.int .i64 N] (byteT N) := by
 have hm : ∀ s, Tri Tryz.prog G 77 [.sl .full [.int .u32 N, .int .u32 0] [], .bool false] s fun r s' => ∃ S, MadeO (byteT N) s' r S /\ NewS s s' S := fun s => by
  have h := made_own G [UInt32.ofNat N, 0] false (by simp) s
  have e1 : (UInt32.ofNat N).toNat = N := by simp; omega
  have e2 : lims [UInt32.ofNat N, 0] = .sl .none [.int .u32 N, .int .u32 0] [] := by simp only [lims, List.map_cons, List.map_nil, limA, e1]; rfl
  rw [e2] at h
  exact Tri.weaken (.cons Le.gh (.cons (Le.refl _) .nil)) h
 have w1 : IntKind.u64.wrap (N : Int) = N := by
  have h : ((N : Int) % 18446744073709551616) = N := Int.emod_eq_of_lt (by omega) (by omega)
  simpa [IntKind.wrap, IntKind.signed, IntKind.bits] using h
 have w2 : IntKind.u32.wrap (N : Int) = N := u32_wrap (by omega) (by omega)
 have w3 : IntKind.u32.wrap ((N : Int).fdiv (2 ^ min 32 IntKind.u64.bits)) = 0 := by
  have hm : min 32 IntKind.u64.bits = 32 := by have : IntKind.u64.bits = 64 := rfl; omega
  rw [hm, Int.fdiv_eq_ediv_of_nonneg _ (by decide), Int.ediv_eq_zero_of_lt (by omega) (by omega)]
  rfl
 have hz : ((N : Int) < 0) = False := eq_false (by omega)
 intro σ
 refine Tri.of_awp mixed Tryz.func62 rfl (by kernel_rfl) (by kernel_rfl) (by simp [Tryz.ntmps62]) Tryz.results62 ?_
 repeat' (first | (refine wn ?_; intro bx hbx; try simp only [fb] at hbx) | refine wi ?_ | simp -dsimp only [↓bp, bq, br, seval, tbOfO, *] | refine wz ?_ | fail)
 rename Nat => b0
 rename σ.fresh b0 => hb0
 generalize byteT N = T at *
 refine Tri.mono (hm _) ?_
 rintro r s2 ⟨S, ⟨x, rfl, hx⟩, nS⟩
 obtain ⟨xl, xk, xt, _, _, _, hv, _, g1, g2, g3⟩ := (ownT_eq _ _ _ _ _).1 hx
 obtain ⟨a1, a2, a3⟩ := g1.one
 obtain ⟨a4, a5, a6⟩ := g2.one
 obtain ⟨a7, a8, a9⟩ := g3.one
 subst hv
 clear g1 g2 g3 hm
 have hr := nS.le.box _ _ (AS.set_get (σ := σ) (b := b0) (cs := [.int .u8 0, .bool false, .nil, .str [], .int .i64 0, .nil, .nil]))
 have l2 : σ.le s2 := ((AS.le.refl σ).setBox hb0.1 _).trans nS.le
 have hne : ∀ b, b ∈ S -> b ≠ b0 := fun b hb e => by have := (nS.fr b hb).1; rw [e, AS.set_get] at this; cases this
 repeat' (first | ((first | refine xh ?_ | refine xi ?_); intro bx hbx; (try simp only [fb] at hbx); try (have nn := fresh_ne (c := bx) hr (by simp only [hbx]))) | refine wi ?_ | simp -dsimp only [↓bp, bq, br, seval, tbOfO, *] | refine wz ?_ | fail)
 have hn2 : ∀ b, b ∈ S -> b ≠ bx := fun b hb e => by
  obtain ⟨z, hz⟩ := nS.on b hb
  rw [e, hbx.1] at hz; cases hz
 have hk : ∀ C D b, b ∈ S -> ((s2.setBox bx C).setBox b0 D).box b = s2.box b := fun C D b hb => by simp only [AS.setBox, if_neg (hne b hb), if_neg (hn2 b hb)]
 exact finishW_some _ (AS.le.refl _) ⟨S, ownT_keep _ _ _ hx fun b hb => hk _ _ b hb, (l2.setBox (l2.noBox hbx.1) _).setBox hb0.1 _, fun b hb => ⟨(set_none (nS.fr b hb).1).2, (nS.fr b hb).2⟩, nS.nd, fun b hb => by rw [hk _ _ b hb]; exact nS.on b hb⟩
end
set_option maxRecDepth 20000
section
def tbOfO2 := And.intro (And.intro (And.intro (And.intro @tf3 (And.intro @tf4 @tf5)) (And.intro @tf47 (And.intro @tf128 @tf2))) (And.intro (And.intro @tf106 (And.intro @tf9 @tf23)) (And.intro @tf22 (And.intro @tf24 @tf26)))) (And.intro (And.intro (And.intro @tf36 (And.intro @Term.flat_enc @Term.isv_enc)) (And.intro @Term.fold_enc (And.intro @isv_encs @flat_encs))) (And.intro (And.intro @len_encs (And.intro @isv_lims @flat_lims)) (And.intro (And.intro @len_lims @ix_lims) (And.intro @ix_lims' @flat_limA))))
variable (G : Nat -> AV)
def bytesT (s : List UInt8) : List Term := s.map fun c => byteT c.toNat
def of0 (s : List UInt8) : Term := listT (bytesT (s.take 4097)) []
def ofS (s : List UInt8) : Term := if right (of0 s) = true then of0 s else zeroT
theorem wbuf_other {n : Nat} {E : TypeId} {σ0 σ : AS} {v : AV} {xs : List AV} (h : WBuf n E σ0 σ v xs) {c : Nat} (h0 : σ0.box c = none) (hr : notRow v c) (C : List AV) : WBuf n E σ0 (σ.setBox c C) v xs := by
 cases h with
 | nil h => exact .nil (h.setBox h0 C)
 | row b xs h h1 h2 hb hx => exact .row b xs (h.setBox h0 C) h1 h2 (set_other hb (fun e => hr e.symm)) hx
theorem wbuf_ownR2 {σ σ' : AS} {v : AV} {vs : List AV} {l : List Term} {S : List Nat} (hB : WBuf 7 26 σ σ' v vs) (hvl : vs.length = l.length) (hC : OwnCs σ' false l (vs.flatMap flat) S) (hN : NewS σ σ' S) (hR : ∀ b, b ∈ S -> notRow v b) : ∃ S', OwnR σ' false l v S' /\ NewS σ σ' S' /\ ∀ b, b ∈ S' -> b ∈ S \/ ∃ n s E, v = .bs b n s E := by
 cases hB with
 | nil h =>
  have : l = [] := List.eq_nil_of_length_eq_zero hvl.symm
  subst this
  exact ⟨[], .inl ⟨rfl, rfl, rfl, rfl⟩, NewS.none h, by simp⟩
 | row b xs h h0 h1 hb hxs =>
  refine ⟨b :: S, .inr ⟨b, vs.flatMap flat, [], S, by rw [hvl], rfl, by rw [List.append_nil]; exact hb, rfl, hC⟩, ⟨hN.le, fun c hc => ?_, List.nodup_cons.2 ⟨fun hb' => hR b hb' rfl, hN.nd⟩, fun c hc => ?_⟩, fun c hc => ?_⟩
  ·rcases List.mem_cons.1 hc with rfl | hc
   ·exact ⟨h0, h1⟩
   ·exact hN.fr c hc
  ·rcases List.mem_cons.1 hc with rfl | hc
   ·exact ⟨_, hb⟩
   ·exact hN.on c hc
  ·rcases List.mem_cons.1 hc with rfl | hc
   ·exact .inr ⟨_, _, _, rfl⟩
   ·exact .inl hc
theorem bulk_byte (n : Nat) : (byteT n).bulk <= 10 := by
 have h := strip_len [UInt32.ofNat n, 0]
 simp only [byteT, intT, Term.bulk, bulks, List.length_nil, List.length_cons] at *
 omega
theorem bulks_bytes : ∀ (s : List UInt8), bulks (bytesT s) <= 11 * s.length
 | [] => by simp [bytesT, bulks]
 | c :: s => by
  have h1 := bulk_byte c.toNat
  have h2 := bulks_bytes s
  simp only [bytesT, List.map_cons, bulks, List.length_cons] at *
  omega
theorem of0_bulk (s : List UInt8) : (of0 s).bulk <= 1000000 := by
 have h := bulks_bytes (s.take 4097)
 have h2 : (s.take 4097).length <= 4097 := by rw [List.length_take]; omega
 simp only [of0, listT, Term.bulk, bulks, List.length_nil]
 omega
set_option maxHeartbeats 4000000 in
theorem of_own (s : List UInt8) (hs : s.length <= 1000000000) : TOwn G 22 [.str s] (ofS s) := by
 have hr0 := right_pure G (of0 s) (by have := of0_bulk s; omega)
 intro σ
 refine Tri.of_awp mixed Tryz.func22 rfl (by kernel_rfl) (by kernel_rfl) (by simp [Tryz.ntmps22]) Tryz.results22 ?_
 repeat' (first | (refine wn ?_; intro bx hbx; try simp only [fb] at hbx) | refine wi ?_ | simp -dsimp only [↓bp, bq, br, seval, tbOfO2, *] | refine wz ?_ | fail)
 rename Nat => b3
 have hb2 : σ.fresh bx := by assumption
 obtain ⟨hb3, n1, n2⟩ : σ.fresh b3 /\ ¬ b3 = bx /\ ¬ bx = b3 := by assumption
 have m1 : (b3 = bx) = False := eq_false n1
 have m2 : (bx = b3) = False := eq_false n2
 refine loop_intro (fun n e σ' => ∃ (i : Nat) (v : AV) (vs : List AV) (S : List Nat), i <= s.length /\ i <= 4097 /\ n = s.length - i /\ e 4 = .int .i64 i /\ σ'.box b3 = some [.int .u8 7, .bool false, .nil, .str [], .int .i64 0, v, .nil] /\ σ'.box bx = some [.int .u8 0, .bool false, .nil, .str [], .int .i64 0, .nil, .nil] /\ WBuf 7 26 σ σ' v vs /\ notRow v b3 /\ notRow v bx /\ vs.length = i /\ OwnCs σ' false (bytesT (s.take i)) (vs.flatMap flat) S /\ NewS σ σ' S /\ (∀ b, b ∈ S -> notRow v b /\ b ≠ b3 /\ b ≠ bx)) s.length
  ⟨0, .nil, [], [], by omega, by omega, by omega, by first | (simp -dsimp only [↓bp, bq, br, seval, tbOfO2]; done) | (simp -dsimp only [↓bp, bq, br, seval, tbOfO2]; try rfl), AS.set_get, set_other AS.set_get n2, .nil (((AS.le.refl σ).setBox hb2.1 _).setBox hb3.1 _), trivial, trivial, rfl, by simp [bytesT, OwnCs], NewS.none (((AS.le.refl σ).setBox hb2.1 _).setBox hb3.1 _), by simp⟩ ?_
 clear n1 n2
 rintro n e1 σ2 ⟨i, v, vs, S, hi, hi2, rfl, h4, f3, f2, hB, r3, r2, hvl, hO, hN, hR⟩
 simp -dsimp only [↓bp, bq, br, seval, tbOfO2] at h4
 obtain ⟨o1, o2, o3⟩ := wbuf_one hB
 by_cases hlt : i < s.length /\ i <= 4096
 ·have hlt' : ((i : Int) < s.length) = True := eq_true (by omega)
  have hle' : ((i : Int) <= 4096) = True := eq_true (by omega)
  obtain ⟨c, hc⟩ : ∃ c, s[i]? = some c := ⟨_, List.getElem?_eq_getElem hlt.1⟩
  have hof := ofw_own G c.toNat (UInt8.toNat_lt c)
  have hwi : IntKind.i64.wrap ((i : Int) + 1) = ((i + 1 : Nat) : Int) := by rw [wrap_nat (by omega) (by omega)]; rfl
  have hwc : IntKind.i64.wrap (c.toNat : Int) = c.toNat := by have := UInt8.toNat_lt c; rw [wrap_nat (by omega) (by omega)]
  clear hr0
  repeat' (first | (refine wn ?_; intro bx hbx; try simp only [fb] at hbx) | refine wi ?_ | simp -dsimp only [↓bp, bq, br, seval, tbOfO2, *] | refine wz ?_ | fail)
  refine draw_perm 8 [0, 1, 2, 3, 4, 5, 6, 7] (by decide +kernel) rfl ?_
  intro hinf
  refine p_read (v := .ptr b3 5) rfl rfl (by simp only [rdv]; simp -dsimp only [↓bp, bq, br, seval, tbOfO2, *]) ?_
  refine p_read (v := v) rfl rfl (by simp only [rdv]; simp -dsimp only [↓bp, bq, br, seval, tbOfO2, *]) ?_
  refine p_read (v := .str s) rfl rfl (by simp only [rdv]; simp -dsimp only [↓bp, bq, br, seval, tbOfO2, *]) ?_
  refine p_read (v := .int .i64 i) rfl rfl (by simp only [rdv]; simp -dsimp only [↓bp, bq, br, seval, tbOfO2, *]) ?_
  refine p_seq rfl rfl ?_
  repeat' (first | (refine wn ?_; intro bx hbx; try simp only [fb] at hbx) | refine wi ?_ | simp -dsimp only [↓bp, bq, br, seval, tbOfO2, *] | refine wz ?_ | fail)
  refine ⟨AS.le.refl _, ?_⟩
  refine p_seq rfl rfl ?_
  repeat' (first | (refine wn ?_; intro bx hbx; try simp only [fb] at hbx) | refine wi ?_ | simp -dsimp only [↓bp, bq, br, seval, tbOfO2, *] | refine wz ?_ | fail)
  refine ⟨AS.le.refl _, ?_⟩
  refine p_seq rfl rfl ?_
  simp -dsimp only [↓bp, bq, br, seval, tbOfO2]
  refine Tri.mono (Tri.inf G (hof _)) ?_
  rintro x s3 ⟨⟨S1, hO1, hN1⟩, i3⟩
  refine ⟨hN1.le, i3, ?_⟩
  obtain ⟨xl, xk, xt, _, _, _, hx, _, g1, g2, g3⟩ := (ownT_eq _ _ _ _ _).1 hO1
  obtain ⟨a1, a2, a3⟩ := g1.one
  obtain ⟨a4, a5, a6⟩ := g2.one
  obtain ⟨a7, a8, a9⟩ := g3.one
  subst hx
  have hsh := ownT_shape hO1
  clear g1 g2 g3 hof
  refine p_read (v := .sl .full [(.agg [.int .u8 (byteT c.toNat).knd, .bool (byteT c.toNat).neg, xl, .str (byteT c.toNat).text, .int .i64 (byteT c.toNat).num, xk, xt])] []) rfl rfl (by simp only [rdv]; simp -dsimp only [↓bp, bq, br, seval, tbOfO2]; exact abs_one tfN rfl rfl (by omega)) ?_
  refine p_nil ?_
  have hl3 := hN1.le
  have k3 := hl3.box _ _ f3
  have k2 := hl3.box _ _ f2
  have hB3 := wbuf_le hB hl3
  have hK4 : ∀ b, b ∈ S ++ S1 -> (∃ z, s3.box b = some z) /\ notRow v b /\ b ≠ b3 /\ b ≠ bx := fun b hb => by
   rcases List.mem_append.1 hb with hb | hb
   ·obtain ⟨z, hz⟩ := hN.on b hb
    exact ⟨⟨z, hl3.box _ _ hz⟩, hR b hb⟩
   ·have h0 := (hN1.fr b hb).1
    exact ⟨hN1.on b hb, wbuf_notRow hB h0, fun e => (by rw [e, f3] at h0; cases h0), fun e => (by rw [e, f2] at h0; cases h0)⟩
  have hO4 : OwnCs s3 false (bytesT (s.take i)) (vs.flatMap flat) S := hO.keep (same_le hl3 hO.on)
  have hfr1 := hN1.fr
  have hnd1 := hN1.nd
  clear hO hR hN1 hinf i3 f3 f2 hB
  repeat' (first | (refine wn ?_; intro bx hbx; try simp only [fb] at hbx) | ((refine app_wb (ys := [(.agg [.int .u8 (byteT c.toNat).knd, .bool (byteT c.toNat).neg, xl, .str (byteT c.toNat).text, .int .i64 (byteT c.toNat).num, xk, xt])]) hB3 tfN (asrc_sl tfE) (fun a ha => by simp at ha; subst ha; exact ⟨hsh.1, hsh.2.1⟩) (by simp only [List.length_cons, List.length_nil]; omega) (fun v5 σ5 hA => ?_); obtain ⟨j3, r5⟩ := hA.keep b3 _ k3 r3; obtain ⟨j2, r6⟩ := hA.keep bx _ k2 r2; obtain ⟨w1, w2, w3⟩ := wbuf_one hA.buf)) | refine wi ?_ | simp -dsimp only [↓bp, bq, br, seval, tbOfO2, *] | refine wz ?_ | fail)
  have hK5 : ∀ C b, b ∈ S ++ S1 -> (σ5.setBox b3 C).box b = s3.box b /\ notRow v5 b := fun C b hb => by
   obtain ⟨⟨z, hz⟩, h1, h2, h3⟩ := hK4 b hb
   obtain ⟨h4, h5⟩ := hA.keep b z hz h1
   exact ⟨by simp only [AS.setBox, if_neg h2]; rw [h4, hz], h5⟩
  have hl5 : ∀ C, σ.le (σ5.setBox b3 C) := fun C => hA.buf.le.setBox hb3.1 C
  have htk : bytesT (s.take (i + 1)) = bytesT (s.take i) ++ [byteT c.toNat] := by unfold bytesT; rw [take_succ_get _ _ _ hc, List.map_append]; rfl
  refine ⟨s.length - (i + 1), by omega, i + 1, v5, vs ++ [(.agg [.int .u8 (byteT c.toNat).knd, .bool (byteT c.toNat).neg, xl, .str (byteT c.toNat).text, .int .i64 (byteT c.toNat).num, xk, xt])], S ++ S1, by omega, by omega, rfl, rfl, rfl, wbuf_other hA.buf hb3.1 r5 _, r5, r6, by simp [hvl], ?_, ?_, fun b hb => ⟨(hK5 [] b hb).2, (hK4 b hb).2.2⟩⟩
  ·rw [htk, List.flatMap_append, List.flatMap_cons, List.flatMap_nil, List.append_nil]
   exact ownCs_snoc (ownT_keep _ _ S1 hO1 fun b hb => (hK5 _ b (List.mem_append_right _ hb)).1) _ _ _ (hO4.keep fun b hb => (hK5 _ b (List.mem_append_left _ hb)).1)
  ·refine hN.more hfr1 hnd1 (hl5 _) fun b hb => ?_
   obtain ⟨⟨z, hz⟩, _⟩ := hK4 b hb
   exact ⟨z, by rw [(hK5 _ b hb).1, hz]⟩
 ·have htk : s.take i = s.take 4097 := by
   by_cases h : i = s.length
   ·subst h; rw [List.take_length, List.take_of_length_le (by omega)]
   ·have : i = 4097 := by omega
    rw [this]
  rw [htk] at hO
  obtain ⟨S', hOR, hNR, hS'⟩ := wbuf_ownR2 hB (by rw [hvl, <- htk]; unfold bytesT; rw [List.length_map, List.length_take]; omega) hO hN (fun b hb => (hR b hb).1)
  have hx : ∀ b, b ∈ S' -> b ≠ b3 /\ b ≠ bx := fun b hb => by
   rcases hS' b hb with hb | ⟨n, s, E, rfl⟩
   ·exact (hR b hb).2
   ·exact ⟨fun e => r3 e.symm, fun e => r2 e.symm⟩
  have hO2 : OwnT σ2 false (of0 s) (.agg [.int .u8 7, .bool false, .nil, .str [], .int .i64 0, v, .nil]) (S' ++ []) := ownT_list hOR (.inl ⟨rfl, rfl, rfl, rfl⟩)
  rw [List.append_nil] at hO2
  have rr : PureC Tryz.prog G 9 [.agg [.int .u8 7, .bool false, .nil, .str [], .int .i64 0, v, .nil]] σ2 (.bool (right (of0 s))) := fun σ' hl => hr0.lend (σ := σ') rfl (.cons (own_lend_term (ownT_keep _ _ _ hO2 (same_le hl hNR.on))) .nil)
  have le2 := hNR.le
  have hex : ofS s = if right (of0 s) = true then of0 s else zeroT := rfl
  rw [hex]
  have hc1 : ((i : Int) < s.length) = True /\ ((i : Int) <= 4096) = False \/ ((i : Int) < s.length) = False := by
   by_cases h : i < s.length
   ·exact .inl ⟨eq_true (by omega), eq_false (by omega)⟩
   ·exact .inr (eq_false (by omega))
  clear hB hO hN hR hOR hS' hvl hr0 hex htk hlt
  rcases hc1 with ⟨q1, q2⟩ | q1
  all_goals
   cases er : right (of0 s)
   all_goals
    rw [er] at rr
    repeat' (first | (refine wn ?_; intro bx hbx; try simp only [fb] at hbx) | refine PureC.use (rr) (by repeat' first | exact lr _ | assumption | refine ls ?_ ?_ | refine lt ?_ ?_ | simp only [*]; done | simp only [fb, *, not_false_eq_true, and_self]; done | exact lf ‹_› (by simp only [*])) ?_ | refine wi ?_ | simp -dsimp only [↓bp, bq, br, seval, tbOfO2, *] | refine wz ?_ | fail)
   ·exact finishW_some _ (AS.le.refl _) ⟨[], by rw [if_neg Bool.false_ne_true]; exact ownT_zero, NewS.none (le2.setBox hb2.1 _)⟩
   ·refine finishW_some _ (AS.le.refl _) ⟨S', by rw [if_pos rfl]; exact ownT_keep _ _ _ hO2 fun b hb => by simp only [AS.setBox, if_neg (hx b hb).2], le2.setBox hb2.1 _, hNR.fr, hNR.nd, fun b hb => ?_⟩
    obtain ⟨z, hz⟩ := hNR.on b hb
    exact ⟨z, set_other hz (hx b hb).2⟩
end
set_option maxRecDepth 20000
section
def tbSplitO := And.intro (And.intro (And.intro (And.intro @tf3 (And.intro @tf4 @tf5)) (And.intro (And.intro @tf47 @tf9) (And.intro @tf23 @tf22))) (And.intro (And.intro @tf24 (And.intro @tf26 @tf36)) (And.intro (And.intro @Term.flat_enc @Term.isv_enc) (And.intro @Term.fold_enc @isv_encs)))) (And.intro (And.intro (And.intro @flat_encs (And.intro @len_encs @ix_encs)) (And.intro (And.intro @ix_encs' @isv_lims) (And.intro @flat_lims @len_lims))) (And.intro (And.intro @ix_lims (And.intro @ix_lims' @flat_limA)) (And.intro (And.intro @ares_cons2 @ares1_tmp) (And.intro @ares1_cell @aresk_some))))
variable (G : Nat -> AV)
def splitF (t : Term) : Term × Term × Bool := match split t with
 | some (h, r) => (h, r, true)
 | none => (zeroT, zeroT, false)
def SplO (p : Term × Term × Bool) (σ : AS) (r : AV) (s : AS) : Prop := ∃ x y A B, r = .tup [x, y, .bool p.2.2] /\ OwnT s false p.1 x A /\ OwnT s false p.2.1 y B /\ NewS σ s (A ++ B)
theorem splO_none {σ s : AS} (h : σ.le s) : SplO (zeroT, zeroT, false) σ (.tup [.agg [.int .u8 0, .bool false, .nil, .str [], .int .i64 0, .nil, .nil], .agg [.int .u8 0, .bool false, .nil, .str [], .int .i64 0, .nil, .nil], .bool false]) s := ⟨_, _, [], [], rfl, ownT_zero, ownT_zero, NewS.none h⟩
set_option maxHeartbeats 4000000 in
theorem splitOne_own (t x : Term) (k7 : (t.knd = 7) = True) (hl0 : ¬ (t.items.length : Int) = 0) (hl1 : ¬ (1 : Int) < t.items.length) (hx : t.items[0]? = some x) (rt : Pure Tryz.prog G 9 [t.enc] (.bool true)) (cx : TOwn G 12 [x.enc] x) (t1 : Pure Tryz.prog G 61 [t.enc] (tailOf t).enc) (t2 : TOwn G 12 [(tailOf t).enc] (tailOf t)) (σ : AS) : Tri Tryz.prog G 21 [t.enc] σ (SplO (x, tailOf t, true) σ) := by
 revert σ
 intro σ
 refine Tri.of_awp mixed Tryz.func21 rfl (by kernel_rfl) (by kernel_rfl) (by simp [Tryz.ntmps21]) Tryz.results21 ?_
 repeat' (first | (refine wn ?_; intro bx hbx; try simp only [fb] at hbx) | refine wp rt ?_ | refine wi ?_ | simp -dsimp only [↓bp, bq, br, seval, tbSplitO, *] | refine wz ?_ | fail)
 rename_i b1 hb1 b2 hb2
 obtain ⟨⟨e1, e2, e3⟩, e4, e5⟩ := hbx
 obtain ⟨hb2, e6, e7⟩ := hb2
 obtain ⟨S0, hS0⟩ : ∃ S0 : AS, S0 = ((σ.setBox b1 [.int .u8 t.knd, .bool t.neg, lims t.limbs, .str t.text, .int .i64 t.num, encs t.items, encs t.tail]).setBox b2 [.int .u8 0, .bool false, .nil, .str [], .int .i64 0, .nil, .nil]).setBox bx [.int .u8 0, .bool false, .nil, .str [], .int .i64 0, .nil, .nil] := ⟨_, rfl⟩
 have l0 : σ.le S0 := by rw [hS0]; exact (((AS.le.refl σ).setBox hb1.1 _).setBox hb2.1 _).setBox e1.1 _
 have f1 : S0.box b1 = some [.int .u8 t.knd, .bool t.neg, lims t.limbs, .str t.text, .int .i64 t.num, encs t.items, encs t.tail] := by rw [hS0]; simp only [AS.setBox, if_neg e3, if_neg e7, if_true]
 have f2 : S0.box b2 = some [.int .u8 0, .bool false, .nil, .str [], .int .i64 0, .nil, .nil] := by rw [hS0]; simp only [AS.setBox, if_neg e5, if_true]
 have f3 : S0.box bx = some [.int .u8 0, .bool false, .nil, .str [], .int .i64 0, .nil, .nil] := by rw [hS0]; exact AS.set_get
 have y2 : σ.box b2 = none := hb2.1
 have y3 : σ.box bx = none := e1.1
 have m1 : (b2 = bx) = False := eq_false e5
 have m2 : (bx = b2) = False := eq_false e4
 have m3 : (b1 = b2) = False := eq_false e7
 have m4 : (b1 = bx) = False := eq_false e3
 rw [<- hS0]
 clear hS0 hb1 hb2 e1 e2 e3 e4 e5 e6 e7 rt
 refine Tri.mono (cx _) ?_
 rintro vx s1 ⟨SX, hX, nX⟩
 obtain ⟨xl, xk, xt, _, _, _, hvx, _, g1, g2, g3⟩ := (ownT_eq _ _ _ _ _).1 hX
 obtain ⟨a1, a2, a3⟩ := g1.one
 obtain ⟨a4, a5, a6⟩ := g2.one
 obtain ⟨a7, a8, a9⟩ := g3.one
 clear g1 g2 g3
 subst hvx
 replace f1 := nX.le.box _ _ f1
 have f2' := nX.le.box _ _ f2
 have f3' := nX.le.box _ _ f3
 have hne : ∀ b, b ∈ SX -> b ≠ b2 /\ b ≠ bx := fun b hb => by
  have := (nX.fr b hb).1
  exact ⟨fun e => (by rw [e, f2] at this; cases this), fun e => (by rw [e, f3] at this; cases this)⟩
 clear f2 f3
 repeat' (first | (refine wn ?_; intro bx hbx; try simp only [fb] at hbx) | refine wi ?_ | simp -dsimp only [↓bp, bq, br, seval, tbSplitO, *] | refine wz ?_ | fail)
 obtain ⟨S2, hS2⟩ : ∃ S2 : AS, S2 = s1.setBox b2 [.int .u8 x.knd, .bool x.neg, xl, .str x.text, .int .i64 x.num, xk, xt] := ⟨_, rfl⟩
 have w1 : S2.box b1 = some [.int .u8 t.knd, .bool t.neg, lims t.limbs, .str t.text, .int .i64 t.num, encs t.items, encs t.tail] := by rw [hS2]; simp only [AS.setBox, m3, if_false]; exact f1
 have w2 : S2.box b2 = some [.int .u8 x.knd, .bool x.neg, xl, .str x.text, .int .i64 x.num, xk, xt] := by rw [hS2]; exact AS.set_get
 have w3 : S2.box bx = some [.int .u8 0, .bool false, .nil, .str [], .int .i64 0, .nil, .nil] := by rw [hS2]; simp only [AS.setBox, m2, if_false]; exact f3'
 have w2' := w2
 have w3' := w3
 have l2 : σ.le S2 := by rw [hS2]; exact (l0.trans nX.le).setBox y2 _
 have hX2 : OwnT S2 false x (.agg [.int .u8 x.knd, .bool x.neg, xl, .str x.text, .int .i64 x.num, xk, xt]) SX := ownT_keep _ _ _ hX fun b hb => by rw [hS2]; simp only [AS.setBox, if_neg (hne b hb).1]
 have nX2 : NewS σ S2 SX := ⟨l2, fun b hb => ⟨l0.noBox (nX.fr b hb).1, le_noTip l0 (nX.fr b hb).2⟩, nX.nd, fun b hb => by
  obtain ⟨z, hz⟩ := nX.on b hb
  rw [hS2]
  exact ⟨z, set_other hz (hne b hb).1⟩⟩
 rw [<- hS2]
 clear hS2 hX nX f1 f2' f3' l0 cx
 refine draw_own 4 (fun k => [41, 42, 43, 44].getD k 0) (fun k => match k with | 0 => isV (.agg [.int .u8 x.knd, .bool x.neg, xl, .str x.text, .int .i64 x.num, xk, xt]) | 1 => isV t.enc | 2 => isV (tailOf t).enc | _ => OwnT' (tailOf t)) (by decide +kernel) (by decide) ?_ rfl rfl ?_ ?_
 ·intro k
  match k with
  | 0 | 1 | 2 => exact keeps_isV _
  | k + 3 => exact keeps_own _
 ·refine ⟨⟨rfl, fun ev s hs hw hf => ?_⟩, ⟨rfl, fun ev s hs hw hf => ?_⟩, ⟨rfl, fun ev s hs hw hf => ?_⟩, ⟨rfl, fun ev s hs hw hf => ?_⟩, trivial⟩
  ·have h0 := hf 2 (by decide)
   have hb := hs.box _ _ w2
   simp -dsimp only [↓bp, bq, br, seval, tbSplitO] at h0
   repeat' (first | (refine wn ?_; intro bx hbx; try simp only [fb] at hbx) | refine wi ?_ | simp -dsimp only [↓bp, bq, br, seval, tbSplitO, *] | refine wz ?_ | fail)
   exact ⟨[], NewS.refl _, rfl, rfl⟩
  ·have h0 := hf 1 (by decide)
   have hb := hs.box _ _ w1
   simp -dsimp only [↓bp, bq, br, seval, tbSplitO] at h0
   repeat' (first | (refine wn ?_; intro bx hbx; try simp only [fb] at hbx) | refine wi ?_ | simp -dsimp only [↓bp, bq, br, seval, tbSplitO, *] | refine wz ?_ | fail)
   exact ⟨[], NewS.refl _, rfl, rfl⟩
  ·obtain ⟨A, h0, _⟩ := hw 1 (by decide +kernel)
   replace h0 : ev 42 = t.enc := h0
   repeat' (first | (refine wn ?_; intro bx hbx; try simp only [fb] at hbx) | refine wp t1 ?_ | refine wi ?_ | simp -dsimp only [↓bp, bq, br, seval, tbSplitO, *] | refine wz ?_ | fail)
   exact ⟨[], NewS.refl _, rfl, rfl⟩
  ·obtain ⟨A, h0, _⟩ := hw 2 (by decide +kernel)
   replace h0 : ev 43 = (tailOf t).enc := h0
   simp -dsimp only [↓bp, bq, br, seval, tbSplitO, h0]
   refine Tri.mono (t2 s) ?_
   rintro r s' ⟨S', a, b⟩
   exact ⟨S', b, a⟩
 ·intro F ev s hF hQ hf
  have h1 : ev 41 = .agg [.int .u8 x.knd, .bool x.neg, xl, .str x.text, .int .i64 x.num, xk, xt] := (hQ 0 (by omega)).1
  have h2 : OwnT s false (tailOf t) (ev 44) (F 3) := hQ 3 (by omega)
  have e2 := hf 2 (by decide)
  have e3 := hf 3 (by decide)
  have hs := hF.le
  generalize tailOf t = u at *
  obtain ⟨yl, yk, yt, _, _, _, hvy, _, g1, g2, g3⟩ := (ownT_eq _ _ _ _ _).1 h2
  obtain ⟨u1, u2, u3⟩ := g1.one
  obtain ⟨u4, u5, u6⟩ := g2.one
  obtain ⟨u7, u8, u9⟩ := g3.one
  rw [hvy] at h2
  simp -dsimp only [↓bp, bq, br, seval, tbSplitO] at e2
  simp -dsimp only [↓bp, bq, br, seval, tbSplitO] at e3
  have N := nX2.more (S1 := F 3) (fun b hb => hF.fr _ b hb) (hF.nd _) (l2.trans hs) fun b hb => by
   rcases List.mem_append.1 hb with hb | hb
   ·obtain ⟨z, hz⟩ := nX2.on b hb; exact ⟨z, hs.box _ _ hz⟩
   ·exact hF.on _ b hb
  have hX3 := ownT_keep _ _ _ hX2 (same_le hs nX2.on)
  replace w2 := hs.box _ _ w2
  replace w3 := hs.box _ _ w3
  have hn : ∀ b, b ∈ SX ++ F 3 -> b ≠ b2 /\ b ≠ bx := fun b hb => by
   rcases List.mem_append.1 hb with hb | hb
   ·exact hne b hb
   ·have := (hF.fr _ b hb).1
    exact ⟨fun e => (by rw [e, w2'] at this; cases this), fun e => (by rw [e, w3'] at this; cases this)⟩
  clear hQ hF hX2 nX2 hf w1 hne g1 g2 g3 w2' w3'
  repeat' (first | (refine wn ?_; intro bx hbx; try simp only [fb] at hbx) | refine wi ?_ | simp -dsimp only [↓bp, bq, br, seval, tbSplitO, *] | refine wz ?_ | fail)
  have hk : ∀ C D b, b ∈ SX ++ F 3 -> ((s.setBox b2 C).setBox bx D).box b = s.box b := fun C D b hb => by simp only [AS.setBox, if_neg (hn b hb).1, if_neg (hn b hb).2]
  exact finishW_some _ (AS.le.refl _) ⟨_, _, SX, F 3, rfl, ownT_keep _ _ _ hX3 fun b hb => hk _ _ b (List.mem_append_left _ hb), ownT_keep _ _ _ h2 fun b hb => hk _ _ b (List.mem_append_right _ hb), (N.le.setBox y2 _).setBox y3 _, N.fr, N.nd, fun b hb => by rw [hk _ _ b hb]; exact N.on b hb⟩
set_option maxHeartbeats 4000000 in
theorem splitMore_own (t x : Term) (q : List Term) (k7 : (t.knd = 7) = True) (hl0 : ¬ (t.items.length : Int) = 0) (hl1 : (1 : Int) < t.items.length) (hl2 : 1 <= t.items.length) (hx : t.items[0]? = some x) (hdr : (t.items.take t.items.length).drop 1 = q) (hdr2 : t.items.drop 1 = q) (rt : Pure Tryz.prog G 9 [t.enc] (.bool true)) (cx : TOwn G 12 [x.enc] x) (c1 : ROwn G 50 [.sl .full [encs q] []] q) (c2 : ROwn G 50 [.sl .full [encs t.tail] []] t.tail) (σ : AS) : Tri Tryz.prog G 21 [t.enc] σ (SplO (x, listT q t.tail, true) σ) := by
 revert σ
 intro σ
 refine Tri.of_awp mixed Tryz.func21 rfl (by kernel_rfl) (by kernel_rfl) (by simp [Tryz.ntmps21]) Tryz.results21 ?_
 repeat' (first | (refine wn ?_; intro bx hbx; try simp only [fb] at hbx) | refine wp rt ?_ | refine wi ?_ | simp -dsimp only [↓bp, bq, br, seval, tbSplitO, *] | refine wz ?_ | fail)
 rename_i b1 hb1 b2 hb2
 obtain ⟨⟨e1, e2, e3⟩, e4, e5⟩ := hbx
 obtain ⟨hb2, e6, e7⟩ := hb2
 obtain ⟨S0, hS0⟩ : ∃ S0 : AS, S0 = ((σ.setBox b1 [.int .u8 t.knd, .bool t.neg, lims t.limbs, .str t.text, .int .i64 t.num, encs t.items, encs t.tail]).setBox b2 [.int .u8 0, .bool false, .nil, .str [], .int .i64 0, .nil, .nil]).setBox bx [.int .u8 0, .bool false, .nil, .str [], .int .i64 0, .nil, .nil] := ⟨_, rfl⟩
 have l0 : σ.le S0 := by rw [hS0]; exact (((AS.le.refl σ).setBox hb1.1 _).setBox hb2.1 _).setBox e1.1 _
 have f1 : S0.box b1 = some [.int .u8 t.knd, .bool t.neg, lims t.limbs, .str t.text, .int .i64 t.num, encs t.items, encs t.tail] := by rw [hS0]; simp only [AS.setBox, if_neg e3, if_neg e7, if_true]
 have f2 : S0.box b2 = some [.int .u8 0, .bool false, .nil, .str [], .int .i64 0, .nil, .nil] := by rw [hS0]; simp only [AS.setBox, if_neg e5, if_true]
 have f3 : S0.box bx = some [.int .u8 0, .bool false, .nil, .str [], .int .i64 0, .nil, .nil] := by rw [hS0]; exact AS.set_get
 have y2 : σ.box b2 = none := hb2.1
 have y3 : σ.box bx = none := e1.1
 have m1 : (b2 = bx) = False := eq_false e5
 have m2 : (bx = b2) = False := eq_false e4
 have m3 : (b1 = b2) = False := eq_false e7
 have m4 : (b1 = bx) = False := eq_false e3
 rw [<- hS0]
 clear hS0 hb1 hb2 e1 e2 e3 e4 e5 e6 e7 rt
 refine Tri.mono (cx _) ?_
 rintro vx s1 ⟨SX, hX, nX⟩
 obtain ⟨xl, xk, xt, _, _, _, hvx, _, g1, g2, g3⟩ := (ownT_eq _ _ _ _ _).1 hX
 obtain ⟨a1, a2, a3⟩ := g1.one
 obtain ⟨a4, a5, a6⟩ := g2.one
 obtain ⟨a7, a8, a9⟩ := g3.one
 clear g1 g2 g3
 subst hvx
 replace f1 := nX.le.box _ _ f1
 have f2' := nX.le.box _ _ f2
 have f3' := nX.le.box _ _ f3
 have hne : ∀ b, b ∈ SX -> b ≠ b2 /\ b ≠ bx := fun b hb => by
  have := (nX.fr b hb).1
  exact ⟨fun e => (by rw [e, f2] at this; cases this), fun e => (by rw [e, f3] at this; cases this)⟩
 clear f2 f3
 repeat' (first | (refine wn ?_; intro bx hbx; try simp only [fb] at hbx) | refine wi ?_ | simp -dsimp only [↓bp, bq, br, seval, tbSplitO, *] | refine wz ?_ | fail)
 obtain ⟨S2, hS2⟩ : ∃ S2 : AS, S2 = s1.setBox b2 [.int .u8 x.knd, .bool x.neg, xl, .str x.text, .int .i64 x.num, xk, xt] := ⟨_, rfl⟩
 have w1 : S2.box b1 = some [.int .u8 t.knd, .bool t.neg, lims t.limbs, .str t.text, .int .i64 t.num, encs t.items, encs t.tail] := by rw [hS2]; simp only [AS.setBox, m3, if_false]; exact f1
 have w2 : S2.box b2 = some [.int .u8 x.knd, .bool x.neg, xl, .str x.text, .int .i64 x.num, xk, xt] := by rw [hS2]; exact AS.set_get
 have w3 : S2.box bx = some [.int .u8 0, .bool false, .nil, .str [], .int .i64 0, .nil, .nil] := by rw [hS2]; simp only [AS.setBox, m2, if_false]; exact f3'
 have w2' := w2
 have w3' := w3
 have l2 : σ.le S2 := by rw [hS2]; exact (l0.trans nX.le).setBox y2 _
 have hX2 : OwnT S2 false x (.agg [.int .u8 x.knd, .bool x.neg, xl, .str x.text, .int .i64 x.num, xk, xt]) SX := ownT_keep _ _ _ hX fun b hb => by rw [hS2]; simp only [AS.setBox, if_neg (hne b hb).1]
 have nX2 : NewS σ S2 SX := ⟨l2, fun b hb => ⟨l0.noBox (nX.fr b hb).1, le_noTip l0 (nX.fr b hb).2⟩, nX.nd, fun b hb => by
  obtain ⟨z, hz⟩ := nX.on b hb
  rw [hS2]
  exact ⟨z, set_other hz (hne b hb).1⟩⟩
 rw [<- hS2]
 clear hS2 hX nX f1 f2' f3' l0 cx
 refine draw_ownV 12 (fun k => [30, 31, 32, 33, 34, 35, 36, 37, 38, 39, 40, 999].getD k 0) (fun k => if k = 10 then [5, 9] else []) (fun k V => match k with | 0 => isV (.agg [.int .u8 x.knd, .bool x.neg, xl, .str x.text, .int .i64 x.num, xk, xt]) | 1 => isV (.ptr b1 5) | 2 => isV (encs t.items) | 3 => isV (encs q) | 4 => isV (.sl .full [encs q] []) | 5 => OwnR' q | 6 => isV (.ptr b1 6) | 7 => isV (encs t.tail) | 8 => isV (.sl .full [encs t.tail] []) | 9 => OwnR' t.tail | 10 => isV (.agg [.int .u8 7, .bool false, .nil, .str [], .int .i64 0, V 5, V 9]) | _ => isAny) (by decide +kernel) (by decide) (by decide) ?_ ?_ rfl rfl ?_ ?_
 ·intro k V
  match k with
  | 0 | 1 | 2 | 3 | 4 | 6 | 7 | 8 | 10 => exact keeps_isV _
  | 5 | 9 => exact keeps_ownR _
  | k + 11 => exact keeps_isAny
 ·intro k V V' s v S hd hq
  match k, hd, hq with
  | 0, _, hq | 1, _, hq | 2, _, hq | 3, _, hq | 4, _, hq | 5, _, hq | 6, _, hq | 7, _, hq | 8, _, hq | 9, _, hq => exact hq
  | 10, hd, hq => rw [hd 5 (by simp), hd 9 (by simp)] at hq; exact hq
  | k + 11, _, hq => exact hq
 ·refine ⟨.inl ⟨rfl, rfl, fun ev s hs hw hf => ?_⟩, .inl ⟨rfl, rfl, fun ev s hs hw hf => ?_⟩, .inl ⟨rfl, rfl, fun ev s hs hw hf => ?_⟩, .inl ⟨rfl, rfl, fun ev s hs hw hf => ?_⟩, .inl ⟨rfl, rfl, fun ev s hs hw hf => ?_⟩, .inl ⟨rfl, rfl, fun ev s hs hw hf => ?_⟩, .inl ⟨rfl, rfl, fun ev s hs hw hf => ?_⟩, .inl ⟨rfl, rfl, fun ev s hs hw hf => ?_⟩, .inl ⟨rfl, rfl, fun ev s hs hw hf => ?_⟩, .inl ⟨rfl, rfl, fun ev s hs hw hf => ?_⟩, .inl ⟨rfl, by decide +kernel, fun ev s hs hw hf => ?_⟩, .inr ⟨rfl, rfl, fun ev s hs hw hf => ?_⟩, trivial⟩
  ·have h0 := hf 2 (by decide)
   have hb := hs.box _ _ w2
   simp -dsimp only [↓bp, bq, br, seval, tbSplitO] at h0
   repeat' (first | (refine wn ?_; intro bx hbx; try simp only [fb] at hbx) | refine wi ?_ | simp -dsimp only [↓bp, bq, br, seval, tbSplitO, *] | refine wz ?_ | fail)
   exact ⟨[], NewS.refl _, rfl, rfl⟩
  ·have h0 := hf 1 (by decide)
   simp -dsimp only [↓bp, bq, br, seval, tbSplitO] at h0
   repeat' (first | (refine wn ?_; intro bx hbx; try simp only [fb] at hbx) | refine wi ?_ | simp -dsimp only [↓bp, bq, br, seval, tbSplitO, *] | refine wz ?_ | fail)
   exact ⟨[], NewS.refl _, rfl, rfl⟩
  ·obtain ⟨A, h0, _⟩ := hw 1 (by decide +kernel)
   replace h0 : ev 31 = .ptr b1 5 := h0
   have hb := hs.box _ _ w1
   repeat' (first | (refine wn ?_; intro bx hbx; try simp only [fb] at hbx) | refine wi ?_ | simp -dsimp only [↓bp, bq, br, seval, tbSplitO, *] | refine wz ?_ | fail)
   exact ⟨[], NewS.refl _, rfl, rfl⟩
  ·obtain ⟨A, h0, _⟩ := hw 2 (by decide +kernel)
   replace h0 : ev 32 = encs t.items := h0
   repeat' (first | (refine wn ?_; intro bx hbx; try simp only [fb] at hbx) | refine wi ?_ | simp -dsimp only [↓bp, bq, br, seval, tbSplitO, sl_encs, *] | refine wz ?_ | fail)
   exact ⟨[], NewS.refl _, rfl, rfl⟩
  ·obtain ⟨A, h0, _⟩ := hw 3 (by decide +kernel)
   replace h0 : ev 33 = encs q := h0
   repeat' (first | (refine wn ?_; intro bx hbx; try simp only [fb] at hbx) | refine wi ?_ | simp -dsimp only [↓bp, bq, br, seval, tbSplitO, *] | refine wz ?_ | fail)
   exact ⟨[], NewS.refl _, rfl, rfl⟩
  ·obtain ⟨A, h0, _⟩ := hw 4 (by decide +kernel)
   replace h0 : ev 34 = .sl .full [encs q] [] := h0
   simp -dsimp only [↓bp, bq, br, seval, tbSplitO, h0]
   refine Tri.mono (c1 s) ?_
   rintro r s' ⟨S', a, b⟩
   exact ⟨S', b, a⟩
  ·have h0 := hf 1 (by decide)
   simp -dsimp only [↓bp, bq, br, seval, tbSplitO] at h0
   repeat' (first | (refine wn ?_; intro bx hbx; try simp only [fb] at hbx) | refine wi ?_ | simp -dsimp only [↓bp, bq, br, seval, tbSplitO, *] | refine wz ?_ | fail)
   exact ⟨[], NewS.refl _, rfl, rfl⟩
  ·obtain ⟨A, h0, _⟩ := hw 6 (by decide +kernel)
   replace h0 : ev 36 = .ptr b1 6 := h0
   have hb := hs.box _ _ w1
   repeat' (first | (refine wn ?_; intro bx hbx; try simp only [fb] at hbx) | refine wi ?_ | simp -dsimp only [↓bp, bq, br, seval, tbSplitO, *] | refine wz ?_ | fail)
   exact ⟨[], NewS.refl _, rfl, rfl⟩
  ·obtain ⟨A, h0, _⟩ := hw 7 (by decide +kernel)
   replace h0 : ev 37 = encs t.tail := h0
   repeat' (first | (refine wn ?_; intro bx hbx; try simp only [fb] at hbx) | refine wi ?_ | simp -dsimp only [↓bp, bq, br, seval, tbSplitO, *] | refine wz ?_ | fail)
   exact ⟨[], NewS.refl _, rfl, rfl⟩
  ·obtain ⟨A, h0, _⟩ := hw 8 (by decide +kernel)
   replace h0 : ev 38 = .sl .full [encs t.tail] [] := h0
   simp -dsimp only [↓bp, bq, br, seval, tbSplitO, h0]
   refine Tri.mono (c2 s) ?_
   rintro r s' ⟨S', a, b⟩
   exact ⟨S', b, a⟩
  ·obtain ⟨A, h35⟩ := hw 5 (by decide +kernel)
   obtain ⟨B, h39⟩ := hw 9 (by decide +kernel)
   replace h35 : OwnR s false q (ev 35) A := h35
   replace h39 : OwnR s false t.tail (ev 39) B := h39
   obtain ⟨u1, u2, u3⟩ := h35.one
   obtain ⟨u4, u5, u6⟩ := h39.one
   repeat' (first | (refine wn ?_; intro bx hbx; try simp only [fb] at hbx) | refine wi ?_ | simp -dsimp only [↓bp, bq, br, seval, tbSplitO, *] | refine wz ?_ | fail)
   exact ⟨[], NewS.refl _, rfl, rfl⟩
  ·obtain ⟨A, h0, _⟩ := hw 0 (by decide +kernel)
   replace h0 : ev 30 = .agg [.int .u8 x.knd, .bool x.neg, xl, .str x.text, .int .i64 x.num, xk, xt] := h0
   have e2 := hf 2 (by decide)
   have hb := hs.box _ _ w2
   simp -dsimp only [↓bp, bq, br, seval, tbSplitO] at e2
   repeat' (first | (refine wn ?_; intro bx hbx; try simp only [fb] at hbx) | refine wi ?_ | simp -dsimp only [↓bp, bq, br, seval, tbSplitO, *] | refine wz ?_ | fail)
   exact ⟨[], NewS.none (le_same hb), fun _ => trivial⟩
 ·intro F ev s hF hQ hf
  have h1 : ev 30 = .agg [.int .u8 x.knd, .bool x.neg, xl, .str x.text, .int .i64 x.num, xk, xt] := (hQ 0 (by omega)).1
  have g1 : OwnR s false q (ev 35) (F 5) := hQ 5 (by omega)
  have g2 : OwnR s false t.tail (ev 39) (F 9) := hQ 9 (by omega)
  have h3 : ev 40 = .agg [.int .u8 7, .bool false, .nil, .str [], .int .i64 0, ev 35, ev 39] := (hQ 10 (by omega)).1
  have hd : ∀ b, b ∈ F 5 ++ F 9 -> S2.box b = none /\ S2.tip b = none /\ ∃ z, s.box b = some z := fun b hb => by
   rcases List.mem_append.1 hb with hb | hb
   ·exact ⟨(hF.fr 5 b hb).1, (hF.fr 5 b hb).2, hF.on 5 b hb⟩
   ·exact ⟨(hF.fr 9 b hb).1, (hF.fr 9 b hb).2, hF.on 9 b hb⟩
  have hnd : (F 5 ++ F 9).Nodup := List.nodup_append.2 ⟨hF.nd 5, hF.nd 9, fun a ha b hb e => by subst e; have := hF.dj 5 9 a ha hb; omega⟩
  have h2 := ownT_list g1 g2
  rw [<- h3] at h2
  have e2 := hf 2 (by decide)
  have e3 := hf 3 (by decide)
  have hs := hF.le
  clear g1 g2 h3
  generalize F 5 ++ F 9 = FK at *
  clear hF
  generalize listT q t.tail = u at *
  obtain ⟨yl, yk, yt, _, _, _, hvy, _, g1, g2, g3⟩ := (ownT_eq _ _ _ _ _).1 h2
  obtain ⟨u1, u2, u3⟩ := g1.one
  obtain ⟨u4, u5, u6⟩ := g2.one
  obtain ⟨u7, u8, u9⟩ := g3.one
  rw [hvy] at h2
  simp -dsimp only [↓bp, bq, br, seval, tbSplitO] at e2
  simp -dsimp only [↓bp, bq, br, seval, tbSplitO] at e3
  have N := nX2.more (S1 := FK) (fun b hb => ⟨(hd b hb).1, (hd b hb).2.1⟩) hnd (l2.trans hs) fun b hb => by
   rcases List.mem_append.1 hb with hb | hb
   ·obtain ⟨z, hz⟩ := nX2.on b hb; exact ⟨z, hs.box _ _ hz⟩
   ·exact (hd b hb).2.2
  have hX3 := ownT_keep _ _ _ hX2 (same_le hs nX2.on)
  replace w2 := hs.box _ _ w2
  replace w3 := hs.box _ _ w3
  have hn : ∀ b, b ∈ SX ++ FK -> b ≠ b2 /\ b ≠ bx := fun b hb => by
   rcases List.mem_append.1 hb with hb | hb
   ·exact hne b hb
   ·have := (hd b hb).1
    exact ⟨fun e => (by rw [e, w2'] at this; cases this), fun e => (by rw [e, w3'] at this; cases this)⟩
  clear hQ hd hnd hX2 nX2 hf w1 hne g1 g2 g3 w2' w3'
  repeat' (first | (refine wn ?_; intro bx hbx; try simp only [fb] at hbx) | refine wi ?_ | simp -dsimp only [↓bp, bq, br, seval, tbSplitO, *] | refine wz ?_ | fail)
  have hk : ∀ D b, b ∈ SX ++ FK -> (s.setBox bx D).box b = s.box b := fun D b hb => by simp only [AS.setBox, if_neg (hn b hb).2]
  exact finishW_some _ (AS.le.refl _) ⟨_, _, SX, FK, rfl, ownT_keep _ _ _ hX3 fun b hb => hk _ b (List.mem_append_left _ hb), ownT_keep _ _ _ h2 fun b hb => hk _ b (List.mem_append_right _ hb), N.le.setBox y3 _, N.fr, N.nd, fun b hb => by rw [hk _ b hb]; exact N.on b hb⟩
theorem splitBad_own (t : Term) (ht : t.bulk <= 300000000) (hb : ¬ (right t = true /\ t.knd = 7 /\ t.items ≠ [])) (σ : AS) : Tri Tryz.prog G 21 [t.enc] σ (SplO (zeroT, zeroT, false) σ) := by
 have rt := right_pure G t (by omega)
 have hbt := t.bulk_eq
 cases et : right t with
 | false =>
  rw [et] at rt
  clear hb hbt
  refine Tri.of_awp mixed Tryz.func21 rfl (by kernel_rfl) (by kernel_rfl) (by simp [Tryz.ntmps21]) Tryz.results21 ?_
  repeat' (first | refine xs ?_ ?_ <;> intros | (refine wn ?_; intro bx hbx; try simp only [fb] at hbx) | refine wp rt ?_ | refine wj ?_ | simp -dsimp only [↓bp, bq, br, seval, tbSplitO, *] | refine wz ?_ | fail)
  exact finishW_some _ (AS.le.refl _) (splO_none (by repeat' first | exact lr _ | assumption | refine ls ?_ ?_ | refine lt ?_ ?_ | simp only [*]; done | simp only [fb, *, not_false_eq_true, and_self]; done | exact lf ‹_› (by simp only [*])))
 | true =>
  rw [et] at rt
  by_cases h7 : t.knd = 7
  ·have hl : (t.items.length : Int) = 0 := by
    by_cases hi : t.items = []
    ·rw [hi]; rfl
    ·exact absurd ⟨et, h7, hi⟩ hb
   have k7 := eq_true h7
   clear hb hbt h7
   refine Tri.of_awp mixed Tryz.func21 rfl (by kernel_rfl) (by kernel_rfl) (by simp [Tryz.ntmps21]) Tryz.results21 ?_
   repeat' (first | refine xs ?_ ?_ <;> intros | (refine wn ?_; intro bx hbx; try simp only [fb] at hbx) | refine wp rt ?_ | refine wj ?_ | simp -dsimp only [↓bp, bq, br, seval, tbSplitO, *] | refine wz ?_ | fail)
   exact finishW_some _ (AS.le.refl _) (splO_none (by repeat' first | exact lr _ | assumption | refine ls ?_ ?_ | refine lt ?_ ?_ | simp only [*]; done | simp only [fb, *, not_false_eq_true, and_self]; done | exact lf ‹_› (by simp only [*])))
  ·have k7 := eq_false h7
   clear hb hbt h7
   refine Tri.of_awp mixed Tryz.func21 rfl (by kernel_rfl) (by kernel_rfl) (by simp [Tryz.ntmps21]) Tryz.results21 ?_
   repeat' (first | refine xs ?_ ?_ <;> intros | (refine wn ?_; intro bx hbx; try simp only [fb] at hbx) | refine wp rt ?_ | refine wj ?_ | simp -dsimp only [↓bp, bq, br, seval, tbSplitO, *] | refine wz ?_ | fail)
   exact finishW_some _ (AS.le.refl _) (splO_none (by repeat' first | exact lr _ | assumption | refine ls ?_ ?_ | refine lt ?_ ?_ | simp only [*]; done | simp only [fb, *, not_false_eq_true, and_self]; done | exact lf ‹_› (by simp only [*])))
theorem split_own (t : Term) (hb : t.bulk <= 300000000) (σ : AS) : Tri Tryz.prog G 21 [t.enc] σ (SplO (splitF t) σ) := by
 have rt := right_pure G t (by omega)
 have hbt := t.bulk_eq
 by_cases hc : right t = true /\ t.knd = 7 /\ t.items ≠ []
 ·obtain ⟨et, h7, hne⟩ := hc
  rw [et] at rt
  have k7 := eq_true h7
  cases hi : t.items with
  | nil => exact absurd hi hne
  | cons x l =>
   have hx : t.items[0]? = some x := by rw [hi]; rfl
   have hbx : x.bulk <= bulks t.items := bulk_mem (by rw [hi]; simp)
   have cx : TOwn G 12 [x.enc] x := copy_own G x (by omega)
   have hl0 : ¬ (t.items.length : Int) = 0 := by rw [hi]; simp; omega
   cases l with
   | nil =>
    have e : splitF t = (x, tailOf t, true) := by unfold splitF split; rw [if_pos ⟨et, h7⟩, hi]
    rw [e]
    have hl1 : ¬ (1 : Int) < t.items.length := by rw [hi]; simp
    exact splitOne_own G t x k7 hl0 hl1 hx rt cx (tail_pure G t) (copy_own G (tailOf t) (by
     unfold tailOf
     cases htl : t.tail with
     | nil => simp [listT, Term.bulk, bulks]
     | cons y r => have := bulk_mem (show y ∈ t.tail by rw [htl]; simp); simp only; omega)) σ
   | cons y r =>
    have e : splitF t = (x, listT (y :: r) t.tail, true) := by unfold splitF split; rw [if_pos ⟨et, h7⟩, hi]
    rw [e]
    have hl1 : (1 : Int) < t.items.length := by rw [hi]; simp; omega
    have hbb : bulks t.items = x.bulk + bulks (y :: r) := by rw [hi]; rfl
    exact splitMore_own G t x (y :: r) k7 hl0 hl1 (by omega) hx (by rw [List.take_length, hi]; rfl) (by rw [hi]; rfl) rt cx (copiesC_own G (y :: r) (by omega)) (copiesC_own G t.tail (by omega)) σ
 ·have e : splitF t = (zeroT, zeroT, false) := by
   unfold splitF split
   split
   ·rename_i h r he
    split at he
    ·rename_i hh
     exfalso
     refine hc ⟨hh.1, hh.2, fun e => ?_⟩
     rw [e] at he; cases he
    ·cases he
   ·rfl
  rw [e]
  exact splitBad_own G t hb hc σ
end
end Go.Proofs.YtdhbdhopnpmboaaGreatDoor
