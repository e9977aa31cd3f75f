/- Terms copied: the copy's rows are its own. -/
import Derived.Test.YtdhbdhopnpmboaaGreatDoorZ16
import Derived.Test.YtdhbdhopnpmboaaGreatDoorZ11
import Derived.Test.YtdhbdhopnpmboaaGreatDoorZ05
import Derived.Test.YtdhbdhopnpmboaaGreatDoorZ14
import Derived.Test.YtdhbdhopnpmboaaGreatDoorZ06
import Derived.Test.YtdhbdhopnpmboaaGreatDoorChecked
import Derived.KernelRfl
import Derived.Test.YtdhbdhopnpmboaaGreatDoorZ07
set_option linter.unusedVariables false
set_option linter.unusedSimpArgs false
set_option maxRecDepth 20000
set_option linter.defProp false
namespace Go.Proofs.YtdhbdhopnpmboaaGreatDoor
open Go Go.Av
section
def tbCopyO := And.intro (And.intro (And.intro (And.intro @tf3 (And.intro @tf4 @tf5)) (And.intro @tf47 (And.intro @tf9 @tf23))) (And.intro (And.intro @tf22 (And.intro @tf24 @tf26)) (And.intro @tf36 (And.intro @Term.flat_enc @Term.isv_enc)))) (And.intro (And.intro (And.intro @Term.fold_enc (And.intro @isv_encs @flat_encs)) (And.intro @len_encs (And.intro @ix_encs @ix_encs'))) (And.intro (And.intro @isv_lims (And.intro @flat_lims @len_lims)) (And.intro @ix_lims (And.intro @ix_lims' @flat_limA))))
variable (G : Nat -> AV)
theorem build_noneM {P : Program} {σ : AS} {t e : TypeId} {n by_ : Nat} {K : AV -> AS -> Prop} {d : Dum σ} {d' : Dum K} (he : aelt P t = some (e, n, by_)) (hK : ∀ b, σ.fresh b -> K (.bs b 0 n e) (σ.setBox b [])) : bmW true P σ t 0 [] K d d' := by
 refine .inr ⟨rfl, ?_⟩
 have h1 : abuildSlice P t 0 [] = some (.sl .full [] []) := by
  refine abuildSlice_eq ?_
  unfold bsk
  rw [he]
  simp
 obtain ⟨h2, ag, h3⟩ := aelt_el he
 unfold abuildM
 rw [h1, h3, h2]
 simpa using hK
theorem wbuf_ownL {σ σ' : AS} {v : AV} {l : List UInt32} (h : WBuf 1 47 σ σ' v (l.map limA)) : ∃ S, OwnL σ' false l v S /\ NewS σ σ' S := by
 generalize hx : l.map limA = xs at h
 cases h with
 | nil h => exact ⟨[], .inl ⟨rfl, by simpa using hx, rfl, rfl⟩, h, by simp, by simp, by simp⟩
 | row b xs h h0 h1 hb hxs =>
  subst hx
  rw [lim_cells] at hb
  exact ⟨[b], .inr ⟨b, [], by rw [List.length_map], rfl, by rw [List.append_nil]; exact hb, rfl⟩, h, fun c hc => by simp at hc; subst hc; exact ⟨h0, h1⟩, by simp, fun c hc => by simp at hc; subst hc; exact ⟨_, hb⟩⟩
theorem wbuf_ownR {σ σ' : AS} {v : AV} {vs : List AV} {l : List Term} {S : List Nat} (hB : WBuf 7 26 σ σ' v vs) (hvl : vs.length = l.length) (hC : OwnCs σ' false l (vs.flatMap flat) S) (hN : NewS σ σ' S) (hR : ∀ b, b ∈ S -> notRow v b) : ∃ S', OwnR σ' false l v S' /\ NewS σ σ' S' := by
 cases hB with
 | nil h =>
  have : l = [] := List.eq_nil_of_length_eq_zero hvl.symm
  subst this
  exact ⟨[], .inl ⟨rfl, rfl, rfl, rfl⟩, h, by simp, by simp, by simp⟩
 | row b xs h h0 h1 hb hxs =>
  refine ⟨b :: S, .inr ⟨b, vs.flatMap flat, [], S, by rw [hvl], rfl, by rw [List.append_nil]; exact hb, rfl, hC⟩, hN.le, fun c hc => ?_, List.nodup_cons.2 ⟨fun hb' => hR b hb' rfl, hN.nd⟩, fun c hc => ?_⟩
  ·rcases List.mem_cons.1 hc with rfl | hc
   ·exact ⟨h0, h1⟩
   ·exact hN.fr c hc
  ·rcases List.mem_cons.1 hc with rfl | hc
   ·exact ⟨_, hb⟩
   ·exact hN.on c hc
theorem cloneL_own (l : List UInt32) (hl : l.length <= 1000000000) (σ : AS) : Tri Tryz.prog G 49 [lims l] σ fun r σ' => ∃ S, OwnL σ' false l r S /\ NewS σ σ' S := by
 have key : ∀ x, (∀ op t, (el Tryz.prog t).isSome = true -> abin Tryz.prog op t x .nil = aeq op false) -> asrc Tryz.prog 23 x = some (l.map limA) -> Tri Tryz.prog G 49 [x] σ fun r σ' => ∃ S, OwnL σ' false l r S /\ NewS σ σ' S := by
  intro x h1 h2
  have h3 := h1 .eql 23 (by rw [tfLE]; rfl)
  refine Tri.of_awp mixed Tryz.func49 rfl (by kernel_rfl) (by kernel_rfl) (by simp [Tryz.ntmps49]) Tryz.results49 ?_
  simp -dsimp only [↓bp, bq, br, seval, tbCopyO, h3]
  refine build_noneM tfL fun b hb => ?_
  simp -dsimp only [↓bp, bq, br, seval, tbCopyO]
  refine app_wb (σ0 := σ) (xs := []) (ys := l.map limA) (.row b [] (le_set hb (AS.le.refl σ)) hb.1 hb.2.1 AS.set_get (fun a ha => by cases ha)) tfL h2 (fun a ha => ⟨flat1 a ha, by obtain ⟨x, _, rfl⟩ := List.mem_map.1 ha; rfl⟩) (by simp; omega) (fun v2 σ2 hA2 => ?_)
  have hB2 := hA2.buf
  rw [List.nil_append] at hB2
  simp -dsimp only [↓bp, bq, br, seval, tbCopyO]
  exact finishW_some _ (AS.le.refl _) (wbuf_ownL hB2)
 cases l with
 | nil =>
  refine Tri.nil_or ?_ fun a c => ?_
  ·refine Tri.of_awp mixed Tryz.func49 rfl (by kernel_rfl) (by kernel_rfl) (by simp [Tryz.ntmps49]) Tryz.results49 ?_
   simp -dsimp only [↓bp, bq, br, seval, tbCopyO]
   exact finishW_some _ (AS.le.refl _) ⟨[], .inl ⟨rfl, rfl, rfl, rfl⟩, AS.le.refl _, by simp, by simp, by simp⟩
  ·exact key _ (fun op t h => by rw [abin_raw_nil, if_pos h]) (by simp [asrc, tfLE])
 | cons x l => exact key _ (fun op t h => by simp [lims, abin, isNil, h]) (asrc_sl tfLE)
theorem Tri.inf {P : Program} {f : FuncId} {args : List AV} {σ : AS} {Q : AV -> AS -> Prop} (h : Tri P G f args σ Q) : Tri P G f args σ fun r s => Q r s /\ Inf s :=
 ⟨h.1, fun K w vals hr hvl => (h.2 K w vals hr hvl).mono (by rintro e w' ⟨u, r, s, K', he, hQ, h1, h2, h3⟩; exact ⟨u, r, s, K', he, ⟨hQ, infOf h2⟩, h1, h2, h3⟩)⟩
theorem abs_one {P : Program} {t e : TypeId} {n by_ : Nat} {a : AV} (he : aelt P t = some (e, n, by_)) (hi : isv a = true) (hf : (Av.flat a).length = n) (hn : n <= 16777216) : abuildSlice P t 1 [(0, a)] = some (.sl .full [a] []) := by
 refine abuildSlice_eq ?_
 unfold bsk
 rw [he]
 simp [List.range_succ, hi, hf, hn]
theorem abs_two {P : Program} {t e : TypeId} {n by_ : Nat} {a b : AV} (he : aelt P t = some (e, n, by_)) (hi : isv a = true) (hf : (Av.flat a).length = n) (hi2 : isv b = true) (hf2 : (Av.flat b).length = n) (hn : 2 * n <= 16777216) : abuildSlice P t 2 [(0, a), (1, b)] = some (.sl .full [a, b] []) := by
 refine abuildSlice_eq ?_
 unfold bsk
 rw [he]
 simp [List.range_succ, hi, hf, hi2, hf2, hn]
theorem tfRR : aelt Tryz.prog 36 = some (24, 1, 24) := tf36.2.2.2.2.2.2
theorem abs_encs (l : List Term) : abuildSlice Tryz.prog 36 1 [(0, encs l)] = some (.sl .full [encs l] []) := abs_one tfRR (isv_encs l) (by rw [flat_encs]; rfl) (by omega)
def COwn (G : Nat -> AV) (x : Term) : Prop := ∀ σ, Tri Tryz.prog G 12 [x.enc] σ fun r σ' => ∃ S, OwnT σ' false x r S /\ NewS σ σ' S
set_option maxHeartbeats 4000000 in
theorem copies_own (ls : List (List Term)) (hl : ls.length <= 1000000) (hb : ls.flatten.length <= 1000000000) (hf : ∀ x, x ∈ ls.flatten -> COwn G x) (σ : AS) : Tri Tryz.prog G 50 [encss ls] σ fun r σ' => ∃ S, OwnR σ' false ls.flatten r S /\ NewS σ σ' S := by
 have hcc := concat_pure G ls hl hb
 generalize ls.flatten = l at *
 refine Tri.of_awp mixed Tryz.func50 rfl (by kernel_rfl) (by kernel_rfl) (by simp [Tryz.ntmps50]) Tryz.results50 ?_
 repeat' (first | (refine wn ?_; intro bx hbx; try simp only [fb] at hbx) | refine wp hcc ?_ | refine wj ?_ | simp -dsimp only [↓bp, bq, br, seval, tbCopyO, len_encss, ix_encss, *] | refine wz ?_ | fail)
 have hC0 : OwnCs σ false (l.take 0) (([] : List AV).flatMap flat) [] := by simp [OwnCs]
 have hN0 : NewS σ σ [] := ⟨AS.le.refl _, by simp, by simp, by simp⟩
 refine loop_intro (fun n e σ' => ∃ (i : Nat) (v : AV) (vs : List AV) (S : List Nat), i <= l.length /\ n = l.length - i /\ e 9 = .int .i64 i /\ e 3 = v /\ WBuf 7 26 σ σ' v vs /\ vs.length = i /\ OwnCs σ' false (l.take i) (vs.flatMap flat) S /\ NewS σ σ' S /\ (∀ b, b ∈ S -> notRow v b)) l.length
  ⟨0, .nil, [], [], by omega, by omega, by first | (simp -dsimp only [↓bp, bq, br, seval, tbCopyO]; done) | (simp -dsimp only [↓bp, bq, br, seval, tbCopyO]; try rfl), by first | (simp -dsimp only [↓bp, bq, br, seval, tbCopyO]; done) | (simp -dsimp only [↓bp, bq, br, seval, tbCopyO]; try rfl), .nil (AS.le.refl _), rfl, hC0, hN0, by simp⟩ ?_
 clear hC0 hN0 hcc
 rintro n e1 σ2 ⟨i, v2, vs, S, hi, rfl, h4, h3, hB, hvl, hO, hN, hR⟩
 simp -dsimp only [↓bp, bq, br, seval, tbCopyO] at h4 h3
 by_cases hlt : i < l.length
 ·have hlt' : ((i : Int) < l.length) = True := eq_true (by omega)
  obtain ⟨k, hk⟩ : ∃ k, l[i]? = some k := ⟨_, List.getElem?_eq_getElem hlt⟩
  have hc := hf k (List.mem_of_getElem? hk)
  have hwi : IntKind.i64.wrap ((i : Int) + 1) = ((i + 1 : Nat) : Int) := by rw [wrap_nat (by omega) (by omega)]; rfl
  clear hf
  repeat' (first | (refine wn ?_; intro bx hbx; try simp only [fb] at hbx) | ((refine Tri.mono (hc _) ?_; rintro r σ3 ⟨S1, hO1, hN1⟩; have hsh := ownT_shape hO1; obtain ⟨vl, vk, vt, Sl, Sk, St, rfl, hSS, g1, g2, g3⟩ := (ownT_eq _ _ _ _ _).1 hO1; obtain ⟨a1, a2, a7⟩ := g1.one; obtain ⟨a3, a4, a8⟩ := g2.one; obtain ⟨a5, a6, a9⟩ := g3.one)) | refine wj ?_ | simp -dsimp only [↓bp, bq, br, seval, tbCopyO, *] | refine wz ?_ | fail)
  have hl0 : σ2.le (σ2.setBox bx [.int .u8 k.knd, .bool k.neg, lims k.limbs, .str k.text, .int .i64 k.num, encs k.items, encs k.tail]) := le_set hbx (AS.le.refl _)
  have hfr : ∀ b, b ∈ S1 -> σ2.box b = none /\ σ2.tip b = none := fun b hb => ⟨le_none hl0 (hN1.fr b hb).1, le_noTip hl0 (hN1.fr b hb).2⟩
  have hl3 := hl0.trans hN1.le
  have hB4 := wbuf_le hB hl3
  have hR1 : ∀ b, b ∈ S1 -> notRow v2 b := fun b hb => wbuf_notRow hB (hfr b hb).1
  have hK4 : ∀ b, b ∈ S ++ S1 -> ∃ z, σ3.box b = some z /\ notRow v2 b := fun b hb => by
   rcases List.mem_append.1 hb with hb | hb
   ·obtain ⟨z, hz⟩ := hN.on b hb
    exact ⟨z, hl3.box _ _ hz, hR b hb⟩
   ·obtain ⟨z, hz⟩ := hN1.on b hb
    exact ⟨z, hz, hR1 b hb⟩
  have hO4 : OwnCs σ3 false (l.take i) (vs.flatMap flat) S := hO.keep (same_le hl3 hO.on)
  clear hc g1 g2 g3 hO hSS hl0 hl3
  refine app_wb (ys := [.agg [.int .u8 k.knd, .bool k.neg, vl, .str k.text, .int .i64 k.num, vk, vt]]) hB4 tfN (asrc_sl tfE) (fun a ha => by simp at ha; subst ha; exact ⟨hsh.1, hsh.2.1⟩) (by simp; omega) (fun v5 σ5 hA => ?_)
  have hK5 : ∀ b, b ∈ S ++ S1 -> σ5.box b = σ3.box b /\ notRow v5 b := fun b hb => by
   obtain ⟨z, hz, hn⟩ := hK4 b hb
   obtain ⟨h1, h2⟩ := hA.keep b z hz hn
   exact ⟨by rw [h1, hz], h2⟩
  have hC5 : OwnCs σ5 false (l.take (i + 1)) ((vs ++ [AV.agg [.int .u8 k.knd, .bool k.neg, vl, .str k.text, .int .i64 k.num, vk, vt]]).flatMap flat) (S ++ S1) := by
   rw [take_succ_get _ _ _ hk, List.flatMap_append, List.flatMap_cons, List.flatMap_nil, List.append_nil]
   exact ownCs_snoc (ownT_keep k _ S1 hO1 fun b hb => (hK5 b (List.mem_append_right _ hb)).1) _ _ _ (hO4.keep fun b hb => (hK5 b (List.mem_append_left _ hb)).1)
  clear hO1 hO4 hsh
  repeat' (first | (refine wn ?_; intro bx hbx; try simp only [fb] at hbx) | refine wj ?_ | simp -dsimp only [↓bp, bq, br, seval, tbCopyO, *] | refine wz ?_ | fail)
  exact ⟨l.length - (i + 1), by omega, i + 1, v5, vs ++ [AV.agg [.int .u8 k.knd, .bool k.neg, vl, .str k.text, .int .i64 k.num, vk, vt]], S ++ S1, by omega, rfl, rfl, rfl, hA.buf, by simp [hvl], hC5, hN.more hfr hN1.nd hA.buf.le (fun b hb => by obtain ⟨z, hz, _⟩ := hK4 b hb; exact ⟨z, by rw [(hK5 b hb).1, hz]⟩), fun b hb => (hK5 b hb).2⟩
 ·have : i = l.length := by omega
  subst this
  have hlt' : ((l.length : Int) < l.length) = False := eq_false (by omega)
  rw [List.take_length] at hO
  clear hf hlt hi
  repeat' (first | (refine wn ?_; intro bx hbx; try simp only [fb] at hbx) | refine wj ?_ | simp -dsimp only [↓bp, bq, br, seval, tbCopyO, *] | refine wz ?_ | fail)
  exact finishW_some _ (AS.le.refl _) (wbuf_ownR hB hvl hO hN hR)
theorem copies1_own (l : List Term) (hb : l.length <= 1000000000) (hf : ∀ x, x ∈ l -> COwn G x) (σ : AS) : Tri Tryz.prog G 50 [.sl .full [encs l] []] σ fun r σ' => ∃ S, OwnR σ' false l r S /\ NewS σ σ' S := by
 have h := Tri.weaken (args := [.sl .full [encs l] []]) (.cons Le.gh .nil) (copies_own G [l] (by simp) (by simpa using hb) (by simpa using hf) σ)
 simpa using h
theorem copy_own (t : Term) : t.bulk <= 1000000000 -> COwn G t := by
 refine Term.ind (P := fun t => t.bulk <= 1000000000 -> COwn G t) (fun t ih1 ih2 hb => ?_) t
 have h1 := copies1_own G t.items (by have := len_items t; omega) (fun x hx => ih1 x hx (by have := bulk_item hx; omega))
 have h2 := copies1_own G t.tail (by have := len_tail t; omega) (fun x hx => ih2 x hx (by have := bulk_tail hx; omega))
 have h3 := cloneL_own G t.limbs (by have := len_limbs t; omega)
 clear ih1 ih2 hb
 intro σ
 refine Tri.of_awp mixed Tryz.func12 rfl (by kernel_rfl) (by kernel_rfl) (by simp [Tryz.ntmps12]) Tryz.results12 ?_
 simp -dsimp only [↓bp, bq, br, seval, tbCopyO]
 refine newW_intro fun b1 hb1 => ?_
 simp -dsimp only [↓bp, bq, br, seval, tbCopyO]
 refine newT_plain fun b2 hb2 => ?_
 simp only [fb] at hb2
 obtain ⟨hb2, hn1, hn2⟩ := hb2
 obtain ⟨A0, hA0⟩ : ∃ S, S = (σ.setBox b1 [.int .u8 t.knd, .bool t.neg, lims t.limbs, .str t.text, .int .i64 t.num, encs t.items, encs t.tail]).setBox b2 [.int .u8 0, .bool false, .nil, .str [], .int .i64 0, .nil, .nil] := ⟨_, rfl⟩
 have l0 : σ.le A0 := by rw [hA0]; exact ((AS.le.refl σ).setBox hb1.1 _).setBox hb2.1 _
 have e1 : A0.box b1 = some [.int .u8 t.knd, .bool t.neg, lims t.limbs, .str t.text, .int .i64 t.num, encs t.items, encs t.tail] := by rw [hA0]; simp [AS.setBox, hn1, hn2]
 have e2 : A0.box b2 = some [.int .u8 0, .bool false, .nil, .str [], .int .i64 0, .nil, .nil] := by rw [hA0]; simp [AS.setBox]
 rw [<- hA0]
 clear hA0
 repeat' (first | (refine wn ?_; intro bx hbx; try simp only [fb] at hbx) | refine wi ?_ | simp -dsimp only [↓bp, bq, br, seval, tbCopyO, *] | refine wz ?_ | fail)
 refine draw_perm 12 [0, 1, 3, 4, 7, 8, 5, 9, 2, 11, 6, 10] (by decide +kernel) rfl ?_
 intro hinf
 refine p_read (v := .ptr b1 2) rfl rfl (by simp only [rdv]; simp -dsimp only [↓bp, bq, br, seval, tbCopyO, *]) ?_
 refine p_read (v := lims t.limbs) rfl rfl (by simp only [rdv]; simp -dsimp only [↓bp, bq, br, seval, tbCopyO, *]) ?_
 refine p_read (v := .ptr b1 5) rfl rfl (by simp only [rdv]; simp -dsimp only [↓bp, bq, br, seval, tbCopyO, *]) ?_
 refine p_read (v := encs t.items) rfl rfl (by simp only [rdv]; simp -dsimp only [↓bp, bq, br, seval, tbCopyO, *]) ?_
 refine p_read (v := .ptr b1 6) rfl rfl (by simp only [rdv]; simp -dsimp only [↓bp, bq, br, seval, tbCopyO, *]) ?_
 refine p_read (v := encs t.tail) rfl rfl (by simp only [rdv]; simp -dsimp only [↓bp, bq, br, seval, tbCopyO, *]) ?_
 refine p_read (v := .sl .full [encs t.items] []) rfl rfl (by simp only [rdv]; simp -dsimp only [↓bp, bq, br, seval, tbCopyO]; exact abs_encs _) ?_
 refine p_read (v := .sl .full [encs t.tail] []) rfl rfl (by simp only [rdv]; simp -dsimp only [↓bp, bq, br, seval, tbCopyO]; exact abs_encs _) ?_
 refine p_seq rfl rfl ?_
 simp -dsimp only [↓bp, bq, br, seval, tbCopyO]
 refine Tri.mono (Tri.inf G (h3 _)) ?_
 rintro vl s1 ⟨⟨Sl, hL, hN1⟩, i1⟩
 refine ⟨hN1.le, i1, ?_⟩
 obtain ⟨a1, a2, a7⟩ := hL.one
 have f1 := hN1.le.box _ _ e1
 have f2 := hN1.le.box _ _ e2
 have n1 : ∀ b, b ∈ Sl -> b ≠ b1 /\ b ≠ b2 := fun b hb => ⟨fun e => (by rw [e] at hb; rw [(hN1.fr b1 hb).1] at e1; cases e1), fun e => (by rw [e] at hb; rw [(hN1.fr b2 hb).1] at e2; cases e2)⟩
 clear h3
 refine p_read (v := .ptr b1 2) rfl rfl (by simp only [rdv]; simp -dsimp only [↓bp, bq, br, seval, tbCopyO, *]) ?_
 refine p_seq rfl rfl ?_
 simp -dsimp only [↓bp, bq, br, seval, tbCopyO]
 refine Tri.mono (Tri.inf G (h1 _)) ?_
 rintro vk s2 ⟨⟨Sk, hK, hN2⟩, i2⟩
 refine ⟨hN2.le, i2, ?_⟩
 obtain ⟨a3, a4, a8⟩ := hK.one
 have n2 : ∀ b, b ∈ Sk -> b ≠ b1 /\ b ≠ b2 := fun b hb => ⟨fun e => (by rw [e] at hb; rw [(hN2.fr b1 hb).1] at f1; cases f1), fun e => (by rw [e] at hb; rw [(hN2.fr b2 hb).1] at f2; cases f2)⟩
 have g1 := hN2.le.box _ _ f1
 have g2 := hN2.le.box _ _ f2
 clear h1
 refine p_seq rfl rfl ?_
 simp -dsimp only [↓bp, bq, br, seval, tbCopyO]
 refine Tri.mono (Tri.inf G (h2 _)) ?_
 rintro vt s3 ⟨⟨St, hT, hN3⟩, i3⟩
 refine ⟨hN3.le, i3, ?_⟩
 obtain ⟨a5, a6, a9⟩ := hT.one
 have n3 : ∀ b, b ∈ St -> b ≠ b1 /\ b ≠ b2 := fun b hb => ⟨fun e => (by rw [e] at hb; rw [(hN3.fr b1 hb).1] at g1; cases g1), fun e => (by rw [e] at hb; rw [(hN3.fr b2 hb).1] at g2; cases g2)⟩
 have k1 := hN3.le.box _ _ g1
 have k2 := hN3.le.box _ _ g2
 clear h2
 refine p_nil ?_
 have M2 : NewS σ s2 (Sl ++ Sk) := (show NewS σ s1 Sl from ⟨l0.trans hN1.le, fun b hb => ⟨le_none l0 (hN1.fr b hb).1, le_noTip l0 (hN1.fr b hb).2⟩, hN1.nd, hN1.on⟩).more hN2.fr hN2.nd ((l0.trans hN1.le).trans hN2.le) fun b hb => by
  rcases List.mem_append.1 hb with hb | hb
  ·obtain ⟨z, hz⟩ := hN1.on b hb; exact ⟨z, hN2.le.box _ _ hz⟩
  ·exact hN2.on b hb
 have M3 : NewS σ s3 (Sl ++ Sk ++ St) := M2.more hN3.fr hN3.nd (M2.le.trans hN3.le) fun b hb => by
  rcases List.mem_append.1 hb with hb | hb
  ·obtain ⟨z, hz⟩ := M2.on b hb; exact ⟨z, hN3.le.box _ _ hz⟩
  ·exact hN3.on b hb
 have hL3 := hL.keep (same_le (hN2.le.trans hN3.le) hN1.on)
 have hK3 := hK.keep (same_le hN3.le hN2.on)
 rw [List.append_assoc] at M3
 have M4 : ∀ C D, NewS σ ((s3.setBox b1 C).setBox b2 D) (Sl ++ (Sk ++ St)) /\ ∀ b, b ∈ Sl ++ (Sk ++ St) -> ((s3.setBox b1 C).setBox b2 D).box b = s3.box b := fun C D => by
  have hne : ∀ b, b ∈ Sl ++ (Sk ++ St) -> b ≠ b1 /\ b ≠ b2 := fun b hb => by
   rcases List.mem_append.1 hb with hb | hb
   ·exact n1 b hb
   rcases List.mem_append.1 hb with hb | hb
   ·exact n2 b hb
   ·exact n3 b hb
  have hk : ∀ b, b ∈ Sl ++ (Sk ++ St) -> ((s3.setBox b1 C).setBox b2 D).box b = s3.box b := fun b hb => by
   simp only [AS.setBox, if_neg (hne b hb).1, if_neg (hne b hb).2]
  exact ⟨⟨(M3.le.setBox hb1.1 _).setBox hb2.1 _, M3.fr, M3.nd, fun b hb => by rw [hk b hb]; exact M3.on b hb⟩, hk⟩
 clear e1 e2 f1 f2 g1 g2 n1 n2 n3 hN1 hN2 hN3 hL hK M2 M3 l0 hinf i1 i2 i3
 repeat' (first | (refine wn ?_; intro bx hbx; try simp only [fb] at hbx) | refine wj ?_ | simp -dsimp only [↓bp, bq, br, seval, tbCopyO, *] | refine wz ?_ | fail)
 obtain ⟨hN, hk⟩ := M4 [.int .u8 t.knd, .bool t.neg, vl, .str t.text, .int .i64 t.num, vk, vt] [.int .u8 t.knd, .bool t.neg, vl, .str t.text, .int .i64 t.num, vk, vt]
 exact finishW_some _ (AS.le.refl _) ⟨_, (ownT_eq _ _ _ _ _).2 ⟨vl, vk, vt, Sl, Sk, St, rfl, rfl, hL3.keep fun b hb => hk b (by simp [hb]), hK3.keep fun b hb => hk b (by simp [hb]), hT.keep fun b hb => hk b (by simp [hb])⟩, hN⟩
end
set_option maxRecDepth 20000
section
def tbOverO := And.intro (And.intro (And.intro @tf3 (And.intro @tf4 @tf5)) (And.intro @tf47 (And.intro @tf9 @tf23))) (And.intro (And.intro @tf22 (And.intro @tf24 @tf26)) (And.intro @Term.flat_enc (And.intro @Term.isv_enc @Term.fold_enc)))
variable (G : Nat -> AV)
theorem LeX.weak {S T : Nat -> Prop} {σ σ' : AS} (h : LeX S σ σ') (hs : ∀ c, S c -> T c) : LeX T σ σ' := ⟨fun b cs hn hc => h.box b cs (fun e => hn (hs b e)) hc, h.tip, h.ty⟩
set_option maxHeartbeats 2000000 in
theorem overL_tri (b n : Nat) (hn : n <= 1000000000) (σ : AS) (cs : List AV) (hb : σ.box b = some cs) (hc : cs.length = n + 12) : Tri Tryz.prog G 53 [.bs b n 1 47] σ fun r σ' => r = .tup [] /\ LeX (fun c => c = b) σ σ' := by
 have hw0 : IntKind.i64.wrap ((n : Int) + 12) = ((n + 12 : Nat) : Int) := by rw [wrap_nat (by omega) (by omega)]; rfl
 have h12 : ((n + 12) * 1 <= n + 12) = True := eq_true (by omega)
 have h13 : (n + 12 <= n) = False := eq_false (by omega)
 refine Tri.of_awp mixed Tryz.func53 rfl (by kernel_rfl) (by kernel_rfl) (by simp [Tryz.ntmps53]) Tryz.results53 ?_
 repeat' (first | (refine wn ?_; intro bx hbx; try simp only [fb] at hbx) | refine wj ?_ | simp -dsimp only [↓bp, bq, br, seval, tbOverO, *] | refine wz ?_ | fail)
 refine loop_intro (fun m e σ' => ∃ (i : Nat) (ds : List AV), i <= n + 12 /\ m = n + 12 - i /\ e 3 = .int .i64 i /\ ds.length = n + 12 /\ σ'.box b = some ds /\ LeX (fun c => c = b) σ σ') (n + 12)
  ⟨0, cs, by omega, by omega, by first | (simp -dsimp only [↓bp, bq, br, seval, tbOverO]; done) | (simp -dsimp only [↓bp, bq, br, seval, tbOverO]; try rfl), hc, hb, LeX.refl _ _⟩ ?_
 clear h12 h13 hw0 hb hc
 rintro m e σ2 ⟨i, ds, hi, rfl, h3, hd, hb, hL⟩
 simp -dsimp only [↓bp, bq, br, seval, tbOverO] at h3
 by_cases hlt : i < n + 12
 ·have hlt' : ((i : Int) < ((n + 12 : Nat) : Int)) = True := eq_true (by omega)
  have hp := mark_pure G 2 i
  have hwi : IntKind.i64.wrap ((i : Int) + 1) = ((i + 1 : Nat) : Int) := by rw [wrap_nat (by omega) (by omega)]; rfl
  have hii : 0 <= (i : Int) /\ (i : Int) < ((n + 12 : Nat) : Int) := by omega
  have hco : i * 1 + 1 <= n + 12 := by omega
  repeat' (first | (refine wn ?_; intro bx hbx; try simp only [fb] at hbx) | refine wp hp ?_ | refine wj ?_ | simp -dsimp only [↓bp, bq, br, seval, tbOverO, *] | refine wz ?_ | fail)
  refine ⟨n + 12 - (i + 1), by omega, i + 1, _, by omega, rfl, rfl, ?_, rfl, hL.set_in rfl _⟩
  simp only [List.length_append, List.length_take, List.length_drop, List.length_cons, List.length_nil]; omega
 ·have : i = n + 12 := by omega
  subst this
  have hlt' : (((n + 12 : Nat) : Int) < ((n + 12 : Nat) : Int)) = False := eq_false (by omega)
  repeat' (first | (refine wn ?_; intro bx hbx; try simp only [fb] at hbx) | refine wj ?_ | simp -dsimp only [↓bp, bq, br, seval, tbOverO, *] | refine wz ?_ | fail)
  all_goals exact finishW_some _ (AS.le.refl _) ⟨rfl, hL⟩
theorem OwnR.on {σ : AS} {m : Bool} {l : List Term} {v : AV} {S : List Nat} (h : OwnR σ m l v S) : ∀ b, b ∈ S -> ∃ z, σ.box b = some z := fun b hb => by
 rcases h with ⟨_, _, _, rfl⟩ | ⟨c, cs, rest, S', _, rfl, hc, _, hO⟩
 ·cases hb
 ·rcases List.mem_cons.1 hb with rfl | hb
  ·exact ⟨_, hc⟩
  ·exact hO.on b hb
def OTri (G : Nat -> AV) (t : Term) : Prop := ∀ (σ : AS) (v : AV) (S : List Nat), OwnT σ true t v S -> S.Nodup -> Tri Tryz.prog G 14 [v] σ fun r σ' => r = .tup [] /\ LeX (fun c => c ∈ S) σ σ'
theorem marks_len : (marks.flatMap flat).length = 84 := by
 simp [marks, marksTo, Term.flat_enc, List.range, List.range.loop]
set_option maxHeartbeats 4000000 in
theorem overTs_tri (ks : List Term) (hl : ks.length <= 1000000000) (hP : ∀ t, t ∈ ks -> OTri G t) (σ : AS) (v : AV) (S : List Nat) (h : OwnR σ true ks v S) (hS : S.Nodup) : Tri Tryz.prog G 54 [v] σ fun r σ' => r = .tup [] /\ LeX (fun c => c ∈ S) σ σ' := by
 rcases h with ⟨h, _⟩ | ⟨b, cs, rest, S', rfl, rfl, hb, hm, hC⟩
 ·cases h
 obtain rfl := hm
 replace hb : σ.box b = some (cs ++ marks.flatMap flat) := hb
 have hcl := ownCs_len ks cs S' hC
 obtain ⟨hbS, hS'⟩ := List.nodup_cons.1 hS
 refine Tri.of_awp mixed Tryz.func54 rfl (by kernel_rfl) (by kernel_rfl) (by simp [Tryz.ntmps54]) Tryz.results54 ?_
 repeat' (first | (refine wn ?_; intro bx hbx; try simp only [fb] at hbx) | refine wj ?_ | simp -dsimp only [↓bp, bq, br, seval, tbOverO, *] | refine wz ?_ | fail)
 refine loop_intro (fun m e σ' => ∃ (i : Nat) (S2 : List Nat), i <= ks.length /\ m = ks.length - i /\ e 2 = .int .i64 i /\ σ'.box b = some (cs ++ marks.flatMap flat) /\ LeX (fun c => c ∈ S') σ σ' /\ S2.Nodup /\ (∀ c, c ∈ S2 -> c ∈ S') /\ OwnCs σ' true (ks.drop i) (cs.drop (i * 7)) S2) ks.length
  ⟨0, S', by omega, by omega, by first | (simp -dsimp only [↓bp, bq, br, seval, tbOverO]; done) | (simp -dsimp only [↓bp, bq, br, seval, tbOverO]; try rfl), hb, LeX.refl _ _, hS', fun _ h => h, by simpa using hC⟩ ?_
 clear hb hC
 rintro m e σ2 ⟨i, S2, hi, rfl, h2, hb, hL, hN, hI, hC⟩
 simp -dsimp only [↓bp, bq, br, seval, tbOverO] at h2
 by_cases hlt : i < ks.length
 ·have hlt' : ((i : Int) < ks.length) = True := eq_true (by omega)
  obtain ⟨k, hk⟩ : ∃ k, ks[i]? = some k := ⟨_, List.getElem?_eq_getElem hlt⟩
  have hwi : IntKind.i64.wrap ((i : Int) + 1) = ((i + 1 : Nat) : Int) := by rw [wrap_nat (by omega) (by omega)]; rfl
  rw [drop_get _ _ _ hk] at hC
  simp only [OwnCs] at hC
  obtain ⟨v, c', Sa, Sb, hcs, rfl, hT, hC⟩ := hC
  have ho := hP k (List.mem_of_getElem? hk) σ2 v Sa hT (List.nodup_append.1 hN).1
  have hsh := (ownT_shape hT).1
  obtain ⟨vl, vk, vt, Sl, Sk, St, rfl, hSS, g1, g2, g3⟩ := (ownT_eq _ _ _ _ _).1 hT
  have hdr : (cs ++ marks.flatMap flat).drop (i * 7) = [.int .u8 k.knd, .bool k.neg, vl, .str k.text, .int .i64 k.num, vk, vt] ++ (c' ++ marks.flatMap flat) := by
   rw [List.drop_append_of_le_length (by omega), hcs, List.append_assoc]; rfl
  have hnx : cs.drop ((i + 1) * 7) = c' := by
   have : cs.drop ((i + 1) * 7) = (cs.drop (i * 7)).drop 7 := by rw [List.drop_drop]; congr 1; omega
   rw [this, hcs]; rfl
  clear hP g1 g2 g3 hT hcs hcl
  generalize cs ++ marks.flatMap flat = X at *
  repeat' (first | (refine wn ?_; intro bx hbx; try simp only [fb] at hbx) | ((refine Tri.mono ho ?_; rintro r σ3 ⟨rfl, hX⟩)) | refine wj ?_ | simp -dsimp only [↓bp, bq, br, seval, tbOverO, *] | refine wz ?_ | fail)
  refine ⟨ks.length - (i + 1), by omega, i + 1, Sb, by omega, rfl, rfl, hX.box b _ (fun hin => hbS (hI b (List.mem_append_left _ hin))) hb, hL.trans (hX.weak fun c hc => hI c (List.mem_append_left _ hc)), (List.nodup_append.1 hN).2.1, fun c hc => hI c (List.mem_append_right _ hc), ?_⟩
  rw [hnx]
  exact hC.keep fun c hc => by
   obtain ⟨z, hz⟩ := hC.on c hc
   rw [hz]
   exact hX.box c z (fun hin => (List.nodup_append.1 hN).2.2 c hin c hc rfl) hz
 ·have : i = ks.length := by omega
  subst this
  have hlt' : ((ks.length : Int) < ks.length) = False := eq_false (by omega)
  have hw0 : IntKind.i64.wrap ((ks.length : Int) + 12) = ((ks.length + 12 : Nat) : Int) := by rw [wrap_nat (by omega) (by omega)]; rfl
  have hXl : (cs ++ marks.flatMap flat).length = (ks.length + 12) * 7 := by rw [List.length_append, hcl, marks_len]; omega
  generalize cs ++ marks.flatMap flat = X at *
  have h12 : ((ks.length + 12) * 7 <= X.length) = True := eq_true (by omega)
  have h13 : (ks.length + 12 <= ks.length) = False := eq_false (by omega)
  have hL' : LeX (fun c => c ∈ b :: S') σ σ2 := hL.weak fun c hc => List.mem_cons_of_mem _ hc
  clear hP hC hN hI hL hcl hlt hi hS hS' hbS
  repeat' (first | (refine wn ?_; intro bx hbx; try simp only [fb] at hbx) | refine wj ?_ | simp -dsimp only [↓bp, bq, br, seval, tbOverO, *] | refine wz ?_ | fail)
  refine loop_intro (fun m e σ' => ∃ (i : Nat) (ds : List AV), i <= ks.length + 12 /\ m = ks.length + 12 - i /\ e 4 = .int .i64 i /\ ds.length = (ks.length + 12) * 7 /\ σ'.box b = some ds /\ LeX (fun c => c ∈ b :: S') σ σ') (ks.length + 12)
   ⟨0, X, by omega, by omega, by first | (simp -dsimp only [↓bp, bq, br, seval, tbOverO]; done) | (simp -dsimp only [↓bp, bq, br, seval, tbOverO]; try rfl), hXl, hb, hL'⟩ ?_
  clear h12 h13 hw0 hb hXl hL'
  rintro m e σ3 ⟨j, ds, hj, rfl, h4, hd, hb, hL⟩
  simp -dsimp only [↓bp, bq, br, seval, tbOverO] at h4
  by_cases hltj : j < ks.length + 12
  ·have hltj' : ((j : Int) < ((ks.length + 12 : Nat) : Int)) = True := eq_true (by omega)
   have hp := markTerm_pure G 2 j
   have hwi : IntKind.i64.wrap ((j : Int) + 1) = ((j + 1 : Nat) : Int) := by rw [wrap_nat (by omega) (by omega)]; rfl
   have hii : 0 <= (j : Int) /\ (j : Int) < ((ks.length + 12 : Nat) : Int) := by omega
   have hco : j * 7 + 7 <= (ks.length + 12) * 7 := by omega
   repeat' (first | (refine wn ?_; intro bx hbx; try simp only [fb] at hbx) | refine wp hp ?_ | refine wj ?_ | simp -dsimp only [↓bp, bq, br, seval, tbOverO, *] | refine wz ?_ | fail)
   refine ⟨ks.length + 12 - (j + 1), by omega, j + 1, _, by omega, rfl, rfl, ?_, rfl, (hL.set_in (S := fun c => c ∈ b :: S') List.mem_cons_self _).weak fun c hc => by simpa using hc⟩
   simp only [List.length_append, List.length_take, List.length_drop, List.length_cons, List.length_nil]; omega
  ·have : j = ks.length + 12 := by omega
   subst this
   have hltj' : (((ks.length + 12 : Nat) : Int) < ((ks.length + 12 : Nat) : Int)) = False := eq_false (by omega)
   repeat' (first | (refine wn ?_; intro bx hbx; try simp only [fb] at hbx) | refine wj ?_ | simp -dsimp only [↓bp, bq, br, seval, tbOverO, *] | refine wz ?_ | fail)
   all_goals exact finishW_some _ (AS.le.refl _) ⟨rfl, hL⟩
theorem over_tri (t : Term) (hb : t.bulk <= 1000000000) : OTri G t := by
 revert hb
 refine Term.ind (P := fun t => t.bulk <= 1000000000 -> OTri G t) (fun t ih1 ih2 hb => ?_) t
 have h1 := overTs_tri G t.items (by have := len_items t; omega) (fun x hx => ih1 x hx (by have := bulk_item hx; omega))
 have h2 := overTs_tri G t.tail (by have := len_tail t; omega) (fun x hx => ih2 x hx (by have := bulk_tail hx; omega))
 have hll := len_limbs t
 clear ih1 ih2
 intro σ v S h hS
 rw [ownT_eq] at h
 obtain ⟨vl, vk, vt, Sl, Sk, St, rfl, rfl, g1, g2, g3⟩ := h
 obtain ⟨n1, n2, d1⟩ := List.nodup_append.1 hS
 obtain ⟨n3, n4, d2⟩ := List.nodup_append.1 n2
 rcases g1 with ⟨g1, _⟩ | ⟨b, rest, rfl, rfl, hbx, hm⟩
 ·cases g1
 obtain rfl := hm
 replace hbx : σ.box b = some (t.limbs.map limA ++ lmarks) := hbx
 have hon : ∀ c, c ∈ [b] ++ (Sk ++ St) -> ∃ z, σ.box c = some z := fun c hc => by
  rcases List.mem_append.1 hc with hc | hc
  ·simp at hc; subst hc; exact ⟨_, hbx⟩
  rcases List.mem_append.1 hc with hc | hc
  ·exact g2.on c hc
  ·exact g3.on c hc
 obtain ⟨a3, a4, a8⟩ := g2.one
 obtain ⟨a5, a6, a9⟩ := g3.one
 refine Tri.of_awp mixed Tryz.func14 rfl (by kernel_rfl) (by kernel_rfl) (by simp [Tryz.ntmps14]) Tryz.results14 ?_
 simp -dsimp only [↓bp, bq, br, seval, tbOverO]
 refine newW_intro fun b1 hb1 => ?_
 obtain ⟨A0, hA0⟩ : ∃ S, S = σ.setBox b1 [.int .u8 t.knd, .bool t.neg, .bs b t.limbs.length 1 47, .str t.text, .int .i64 t.num, vk, vt] := ⟨_, rfl⟩
 have e1 : A0.box b1 = some [.int .u8 t.knd, .bool t.neg, .bs b t.limbs.length 1 47, .str t.text, .int .i64 t.num, vk, vt] := by rw [hA0]; exact AS.set_get
 have hx0 : LeX (fun c => c ∈ [b] ++ (Sk ++ St)) σ A0 := by rw [hA0]; exact (LeX.refl _ σ).set_new hb1.1 _
 have hne : ∀ c, c ∈ [b] ++ (Sk ++ St) -> c ≠ b1 := fun c hc e => by
  obtain ⟨z, hz⟩ := hon c hc
  rw [e, hb1.1] at hz; cases hz
 have hk0 : ∀ c, c ∈ [b] ++ (Sk ++ St) -> A0.box c = σ.box c := fun c hc => by rw [hA0]; simp only [AS.setBox, if_neg (hne c hc)]
 rw [<- hA0]
 clear hA0
 have q1 := overL_tri G b t.limbs.length (by omega) A0 _ (by rw [hk0 b (by simp)]; exact hbx) (by rw [List.length_append, List.length_map]; rfl)
 have g2' := g2.keep (σ' := A0) fun c hc => hk0 c (by simp [hc])
 have g3' := g3.keep (σ' := A0) fun c hc => hk0 c (by simp [hc])
 clear g2 g3 hk0 hbx
 repeat' (first | (refine wn ?_; intro bx hbx; try simp only [fb] at hbx) | refine wj ?_ | simp -dsimp only [↓bp, bq, br, seval, tbOverO, *] | refine wz ?_ | fail)
 refine Tri.mono q1 ?_
 rintro _ s1 ⟨rfl, x1⟩
 have f1 := x1.box b1 _ (fun e => hne b (by simp) e.symm) e1
 have m2 := g2'.keep (σ' := s1) fun c hc => by
  obtain ⟨z, hz⟩ := g2'.on c hc
  rw [hz]; exact x1.box c z (fun e => d1 b (by simp) c (by simp [hc]) e.symm) hz
 have m3 := g3'.keep (σ' := s1) fun c hc => by
  obtain ⟨z, hz⟩ := g3'.on c hc
  rw [hz]; exact x1.box c z (fun e => d1 b (by simp) c (by simp [hc]) e.symm) hz
 have q2 := h1 s1 vk Sk m2 n3
 clear q1 e1 g2' g3' h1
 repeat' (first | (refine wn ?_; intro bx hbx; try simp only [fb] at hbx) | refine wj ?_ | simp -dsimp only [↓bp, bq, br, seval, tbOverO, *] | refine wz ?_ | fail)
 refine Tri.mono q2 ?_
 rintro _ s2 ⟨rfl, x2⟩
 have f2 := x2.box b1 _ (fun e => hne b1 (by simp [e]) rfl) f1
 have k3 := m3.keep (σ' := s2) fun c hc => by
  obtain ⟨z, hz⟩ := m3.on c hc
  rw [hz]; exact x2.box c z (fun e => d2 c e c hc rfl) hz
 have q3 := h2 s2 vt St k3 n4
 clear q2 f1 m2 m3 h2
 repeat' (first | (refine wn ?_; intro bx hbx; try simp only [fb] at hbx) | refine wj ?_ | simp -dsimp only [↓bp, bq, br, seval, tbOverO, *] | refine wz ?_ | fail)
 refine Tri.mono q3 ?_
 rintro _ s3 ⟨rfl, x3⟩
 clear q3
 repeat' (first | (refine wn ?_; intro bx hbx; try simp only [fb] at hbx) | refine wj ?_ | simp -dsimp only [↓bp, bq, br, seval, tbOverO, *] | refine wz ?_ | fail)
 all_goals exact finishW_some _ (AS.le.refl _) ⟨rfl, ((hx0.trans (x1.weak fun c hc => by simp [hc])).trans (x2.weak fun c hc => by simp [hc])).trans (x3.weak fun c hc => by simp [hc])⟩
end
set_option maxRecDepth 20000
section
def boxesOf : List Row -> List Nat
 | [] => []
 | none :: r => boxesOf r
 | some (b, _) :: r => b :: boxesOf r
theorem boxesOf_append : ∀ (a b : List Row), boxesOf (a ++ b) = boxesOf a ++ boxesOf b
 | [], _ => rfl
 | none :: r, b => by simp only [List.cons_append, boxesOf, boxesOf_append r b]
 | some (c, _) :: r, b => by simp only [List.cons_append, boxesOf, boxesOf_append r b]
theorem boxesOf_mem : ∀ (rs : List Row) (b : Nat), InS rs b -> b ∈ boxesOf rs
 | [], b, ⟨n, h⟩ => by cases h
 | none :: r, b, ⟨n, h⟩ => by
  simp only [List.mem_cons, reduceCtorEq, false_or] at h
  simp only [boxesOf]
  exact boxesOf_mem r b ⟨n, h⟩
 | some (c, m) :: r, b, ⟨n, h⟩ => by
  simp only [boxesOf, List.mem_cons]
  rcases List.mem_cons.1 h with h | h
  ·cases h; exact .inl rfl
  ·exact .inr (boxesOf_mem r b ⟨n, h⟩)
theorem boxesOf_at : ∀ (rs : List Row) (j b n : Nat), rs[j]? = some (some (b, n)) -> b ∈ boxesOf rs := fun rs j b n h => boxesOf_mem rs b ⟨n, List.mem_of_getElem? h⟩
theorem distinct_of : ∀ (rs : List Row), (boxesOf rs).Nodup -> Distinct rs
 | [], _ => fun i j b n m hi => by simp at hi
 | none :: r, h => fun i j b n m hi hj => by
  simp only [boxesOf] at h
  match i, j, hi, hj with
  | 0, _, hi, _ => simp at hi
  | _ + 1, 0, _, hj => simp at hj
  | i + 1, j + 1, hi, hj => simp at hi hj; rw [distinct_of r h i j b n m hi hj]
 | some (c, k) :: r, h => fun i j b n m hi hj => by
  simp only [boxesOf, List.nodup_cons] at h
  match i, j, hi, hj with
  | 0, 0, _, _ => rfl
  | 0, j + 1, hi, hj => simp at hi hj; obtain ⟨rfl, rfl⟩ := hi; exact absurd (boxesOf_at r j _ m hj) h.1
  | i + 1, 0, hi, hj => simp at hi hj; obtain ⟨rfl, rfl⟩ := hj; exact absurd (boxesOf_at r i _ n hi) h.1
  | i + 1, j + 1, hi, hj => simp at hi hj; rw [distinct_of r h.2 i j b n m hi hj]
mutual
def PutT (σ : AS) : Term -> AV -> List Row -> List Row -> Prop
 | .mk k g l s n ks ts, v, Ls, Ts => ∃ vk vt r0 Lk Lt rk Tk rt Tt, v = .agg [.int .u8 k.toNat, .bool g, rowA 1 47 r0, .str s, .int .i64 n, vk, vt] /\ Ls = r0 :: (Lk ++ Lt) /\ Ts = (rk :: Tk) ++ (rt :: Tt) /\ (∀ b n, r0 = some (b, n) -> n = l.length /\ ∃ cs, σ.box b = some cs /\ n * 1 <= cs.length) /\
  (vk = rowA 7 26 rk /\ rlen rk = ks.length /\ ((rk = none /\ Lk = [] /\ Tk = []) \/ ∃ b cs rest, rk = some (b, ks.length) /\ σ.box b = some (cs ++ rest) /\ PutCs σ ks cs Lk Tk)) /\
  (vt = rowA 7 26 rt /\ rlen rt = ts.length /\ ((rt = none /\ Lt = [] /\ Tt = []) \/ ∃ b cs rest, rt = some (b, ts.length) /\ σ.box b = some (cs ++ rest) /\ PutCs σ ts cs Lt Tt))
def PutCs (σ : AS) : List Term -> List AV -> List Row -> List Row -> Prop
 | [], cs, Ls, Ts => cs = [] /\ Ls = [] /\ Ts = []
 | t :: r, cs, Ls, Ts => ∃ v c' L1 L2 T1 T2, cs = flat v ++ c' /\ Ls = L1 ++ L2 /\ Ts = T1 ++ T2 /\ PutT σ t v L1 T1 /\ PutCs σ r c' L2 T2
end
def PutR (σ : AS) (ks : List Term) (v : AV) (Lk : List Row) (r : Row) (Tk : List Row) : Prop := v = rowA 7 26 r /\ rlen r = ks.length /\ ((r = none /\ Lk = [] /\ Tk = []) \/ ∃ b cs rest, r = some (b, ks.length) /\ σ.box b = some (cs ++ rest) /\ PutCs σ ks cs Lk Tk)
theorem putT_eq (σ : AS) (t : Term) (v : AV) (Ls Ts : List Row) : PutT σ t v Ls Ts ↔ ∃ vk vt r0 Lk Lt rk Tk rt Tt, v = .agg [.int .u8 t.knd, .bool t.neg, rowA 1 47 r0, .str t.text, .int .i64 t.num, vk, vt] /\ Ls = r0 :: (Lk ++ Lt) /\ Ts = (rk :: Tk) ++ (rt :: Tt) /\ (∀ b n, r0 = some (b, n) -> n = t.limbs.length /\ ∃ cs, σ.box b = some cs /\ n * 1 <= cs.length) /\ PutR σ t.items vk Lk rk Tk /\ PutR σ t.tail vt Lt rt Tt := by
 cases t
 simp only [PutT, PutR, Term.knd, Term.kind, Term.neg, Term.limbs, Term.text, Term.num, Term.items, Term.tail]
theorem ownCs_put {σ : AS} {m : Bool} : ∀ (l : List Term) (cs : List AV) (S : List Nat), (∀ t, t ∈ l -> ∀ v S, OwnT σ m t v S -> ∃ Ls Ts, PutT σ t v Ls Ts /\ S.Perm (boxesOf (Ls ++ Ts))) -> OwnCs σ m l cs S -> ∃ Ls Ts, PutCs σ l cs Ls Ts /\ S.Perm (boxesOf (Ls ++ Ts))
 | [], cs, S, _, h => by
  simp only [OwnCs] at h
  obtain ⟨rfl, rfl⟩ := h
  exact ⟨[], [], by simp [PutCs], .nil⟩
 | t :: r, cs, S, hP, h => by
  simp only [OwnCs] at h
  obtain ⟨v, c', S1, S2, rfl, rfl, h1, h2⟩ := h
  obtain ⟨L1, T1, p1, q1⟩ := hP t List.mem_cons_self v S1 h1
  obtain ⟨L2, T2, p2, q2⟩ := ownCs_put r c' S2 (fun t ht => hP t (List.mem_cons_of_mem _ ht)) h2
  refine ⟨L1 ++ L2, T1 ++ T2, by simp only [PutCs]; exact ⟨v, c', L1, L2, T1, T2, rfl, rfl, rfl, p1, p2⟩, (q1.append q2).trans ?_⟩
  simp only [boxesOf_append, List.append_assoc]
  refine List.Perm.append_left _ ?_
  rw [<- List.append_assoc, <- List.append_assoc]
  exact List.Perm.append_right _ List.perm_append_comm
theorem ownR_put {σ : AS} {m : Bool} (l : List Term) (hP : ∀ t, t ∈ l -> ∀ v S, OwnT σ m t v S -> ∃ Ls Ts, PutT σ t v Ls Ts /\ S.Perm (boxesOf (Ls ++ Ts))) (v : AV) (S : List Nat) (h : OwnR σ m l v S) : ∃ Lk r Tk, PutR σ l v Lk r Tk /\ S.Perm (boxesOf (Lk ++ r :: Tk)) := by
 rcases h with ⟨_, rfl, rfl, rfl⟩ | ⟨b, cs, rest, S', rfl, rfl, hb, _, hc⟩
 ·exact ⟨[], none, [], ⟨rfl, rfl, .inl ⟨rfl, rfl, rfl⟩⟩, .nil⟩
 ·obtain ⟨Ls, Ts, hp, hq⟩ := ownCs_put l cs S' hP hc
  refine ⟨Ls, some (b, l.length), Ts, ⟨rfl, rfl, .inr ⟨b, cs, rest, rfl, hb, hp⟩⟩, ?_⟩
  rw [boxesOf_append] at hq ⊢
  simp only [boxesOf]
  exact (List.Perm.cons b hq).trans List.perm_middle.symm
theorem ownT_put {σ : AS} {m : Bool} (t : Term) : ∀ (v : AV) (S : List Nat), OwnT σ m t v S -> ∃ Ls Ts, PutT σ t v Ls Ts /\ S.Perm (boxesOf (Ls ++ Ts)) := by
 refine Term.ind (P := fun t => ∀ (v : AV) (S : List Nat), OwnT σ m t v S -> ∃ Ls Ts, PutT σ t v Ls Ts /\ S.Perm (boxesOf (Ls ++ Ts))) (fun t ih1 ih2 => ?_) t
 intro v S h
 rw [ownT_eq] at h
 obtain ⟨vl, vk, vt, Sl, Sk, St, rfl, rfl, h1, h2, h3⟩ := h
 obtain ⟨Lk, rk, Tk, p2, q2⟩ := ownR_put t.items ih1 vk Sk h2
 obtain ⟨Lt, rt, Tt, p3, q3⟩ := ownR_put t.tail ih2 vt St h3
 have hq : ∀ r0, Sl.Perm (boxesOf [r0]) -> (Sl ++ (Sk ++ St)).Perm (boxesOf ((r0 :: (Lk ++ Lt)) ++ ((rk :: Tk) ++ (rt :: Tt)))) := fun r0 h0 => by
  refine (h0.append (q2.append q3)).trans ?_
  rw [show r0 :: (Lk ++ Lt) = [r0] ++ (Lk ++ Lt) from rfl]
  simp only [boxesOf_append, List.append_assoc]
  refine List.Perm.append_left _ (List.Perm.append_left _ ?_)
  rw [<- List.append_assoc, <- List.append_assoc]
  exact List.Perm.append_right _ List.perm_append_comm
 rcases h1 with ⟨_, hl, rfl, rfl⟩ | ⟨b, rest, rfl, rfl, hb, _⟩
 ·exact ⟨_, _, (putT_eq _ _ _ _ _).2 ⟨vk, vt, none, Lk, Lt, rk, Tk, rt, Tt, rfl, rfl, rfl, fun b n h => (by cases h), p2, p3⟩, hq none .nil⟩
 ·exact ⟨_, _, (putT_eq _ _ _ _ _).2 ⟨vk, vt, some (b, t.limbs.length), Lk, Lt, rk, Tk, rt, Tt, rfl, rfl, rfl, fun c n h => (by cases h; exact ⟨rfl, _, hb, by simp⟩), p2, p3⟩, hq _ (List.Perm.refl _)⟩
end
section
def ownB : AV -> Option Nat
 | .sl (.own b) _ _ => some b
 | _ => none
def apartO (v w : AV) : Prop := ∀ b, ownB v = some b -> ownB w ≠ some b
theorem buf_tip {m : Nat} {σ0 σ σ' : AS} {w : AV} {ws : List AV} (h : Buf m σ0 σ w ws) (hl : σ0.le σ') (ht : ∀ b, ownB w = some b -> σ'.tip b = σ.tip b) : Buf m σ0 σ' w ws := by
 cases h with
 | nil _ => exact .nil hl
 | own b xs h h0 ht' hx => exact .own b ws hl h0 (by rw [ht b rfl]; exact ht') hx
theorem buf_own {m : Nat} {σ0 σ : AS} {w : AV} {ws : List AV} (h : Buf m σ0 σ w ws) {b : Nat} (hb : ownB w = some b) : ∃ x, σ.tip b = some x := by
 cases h with
 | nil _ => cases hb
 | own c xs h h0 ht hx => cases hb; exact ⟨_, ht⟩
theorem app_buf2 {P : Program} {n m by_ : Nat} {σ0 σ : AS} {v w x : AV} {xs ys ws : List AV} {t tx e : TypeId} {K : AV -> AS -> Prop} {d : Dum σ} {d' : Dum K} (hB : Buf n σ0 σ v xs) (hW : Buf m σ0 σ w ws) (ha : apartO v w) (he : aelt P t = some (e, n, by_)) (hs : asrc P tx x = some ys)
  (hys : ∀ a, a ∈ ys -> (Av.flat a).length = n) (hb : (xs.length + ys.length) * by_ <= 140737488355328) (hK : ∀ v' σ', Buf n σ0 σ' v' (xs ++ ys) -> Buf m σ0 σ' w ws -> apartO v' w -> σ'.box = σ.box -> K v' σ') : appW P σ t tx v x K d d' := by
 refine .inl ?_
 unfold aappend
 rw [he, hs]
 refine ⟨hys, ?_⟩
 cases hB with
 | nil h =>
  refine ⟨by simpa using hb, fun hy => ?_, fun hy b hf => ?_⟩
  ·subst hy; exact hK _ _ (.nil h) hW (fun b hb => by cases hb) rfl
  ·have hf0 := h.fresh hf
   have hne : ∀ c, ownB w = some c -> c ≠ b := fun c hc e => by
    obtain ⟨z, hz⟩ := buf_own hW hc
    rw [e, hf.2.1] at hz; cases hz
   refine hK _ _ ?_ (buf_tip hW (h.setTip hf0.2.1 _) fun c hc => by simp [AS.setTip, hne c hc]) (fun c hc => ?_) rfl
   ·rw [List.nil_append]
    exact .own b ys (h.setTip hf0.2.1 _) hf0.2.1 (by simp [AS.setTip]) hys
   ·cases hc
    exact fun hc => hne _ hc rfl
 | own b xs h h0 ht hx =>
  refine ⟨ht, hx, hb, fun b' hb' => ?_⟩
  have h0' : σ0.tip b' = none := by
   rcases hb' with rfl | hf
   ·exact h0
   ·exact (h.fresh hf).2.1
  have hne : ∀ c, ownB w = some c -> c ≠ b /\ c ≠ b' := fun c hc => by
   have h1 : c ≠ b := fun e => ha b rfl (by rw [<- e]; exact hc)
   refine ⟨h1, ?_⟩
   rcases hb' with rfl | hf
   ·exact h1
   ·intro e
    obtain ⟨z, hz⟩ := buf_own hW hc
    rw [e, hf.2.1] at hz; cases hz
  refine hK _ _ ?_ (buf_tip hW ((h.delTip h0).setTip h0' _) fun c hc => by simp [AS.setTip, AS.delTip, hne c hc]) (fun c hc => ?_) rfl
  ·refine .own b' (xs ++ ys) ((h.delTip h0).setTip h0' _) h0' (by simp [AS.setTip]) fun a ha => ?_
   rcases List.mem_append.1 ha with ha | ha
   ·exact hx a ha
   ·exact hys a ha
  ·cases hc
   exact fun hc => (hne _ hc).2 rfl
theorem apartO.symm {v w : AV} (h : apartO v w) : apartO w v := fun b h1 h2 => h b h2 h1
end
set_option maxRecDepth 100000
section
theorem tf72 : tk Tryz.prog 72 = some (false, 1) /\ sk Tryz.prog 72 = .ptr 93 /\ (Tryz.prog.underlying 72).isSome = true /\ el Tryz.prog 72 = none /\ zc Tryz.prog 72 = some [.nilptr] /\ by_ Tryz.prog 72 = some 8 := ⟨by kernel_rfl, by kernel_rfl, by kernel_rfl, by kernel_rfl, by kernel_rfl, by kernel_rfl⟩
theorem tf73 : tk Tryz.prog 73 = some (false, 1) /\ sk Tryz.prog 73 = .sl 23 /\ (Tryz.prog.underlying 73).isSome = true /\ el Tryz.prog 73 = some 23 /\ zc Tryz.prog 73 = some [.nil] /\ by_ Tryz.prog 73 = some 24 /\ aelt Tryz.prog 73 = some (23, 1, 24) := ⟨by kernel_rfl, by kernel_rfl, by kernel_rfl, by kernel_rfl, by kernel_rfl, by kernel_rfl, by kernel_rfl⟩
theorem tf74 : tk Tryz.prog 74 = some (false, 1) /\ sk Tryz.prog 74 = .sl 146 /\ (Tryz.prog.underlying 74).isSome = true /\ el Tryz.prog 74 = some 146 /\ zc Tryz.prog 74 = some [.nil] /\ by_ Tryz.prog 74 = some 24 /\ aelt Tryz.prog 74 = some (146, 1, 24) := ⟨by kernel_rfl, by kernel_rfl, by kernel_rfl, by kernel_rfl, by kernel_rfl, by kernel_rfl, by kernel_rfl⟩
theorem tf75 : tk Tryz.prog 75 = some (false, 1) /\ sk Tryz.prog 75 = .sl 147 /\ (Tryz.prog.underlying 75).isSome = true /\ el Tryz.prog 75 = some 147 /\ zc Tryz.prog 75 = some [.nil] /\ by_ Tryz.prog 75 = some 24 /\ aelt Tryz.prog 75 = some (147, 1, 24) := ⟨by kernel_rfl, by kernel_rfl, by kernel_rfl, by kernel_rfl, by kernel_rfl, by kernel_rfl, by kernel_rfl⟩
theorem tf76 : tk Tryz.prog 76 = some (false, 1) /\ sk Tryz.prog 76 = .sl 148 /\ (Tryz.prog.underlying 76).isSome = true /\ el Tryz.prog 76 = some 148 /\ zc Tryz.prog 76 = some [.nil] /\ by_ Tryz.prog 76 = some 24 /\ aelt Tryz.prog 76 = some (148, 1, 24) := ⟨by kernel_rfl, by kernel_rfl, by kernel_rfl, by kernel_rfl, by kernel_rfl, by kernel_rfl, by kernel_rfl⟩
theorem tf77 : tk Tryz.prog 77 = some (false, 1) /\ sk Tryz.prog 77 = .sl 44 /\ (Tryz.prog.underlying 77).isSome = true /\ el Tryz.prog 77 = some 44 /\ zc Tryz.prog 77 = some [.nil] /\ by_ Tryz.prog 77 = some 24 /\ aelt Tryz.prog 77 = some (44, 1, 24) := ⟨by kernel_rfl, by kernel_rfl, by kernel_rfl, by kernel_rfl, by kernel_rfl, by kernel_rfl, by kernel_rfl⟩
theorem tf78 : tk Tryz.prog 78 = some (false, 1) /\ sk Tryz.prog 78 = .sl 45 /\ (Tryz.prog.underlying 78).isSome = true /\ el Tryz.prog 78 = some 45 /\ zc Tryz.prog 78 = some [.nil] /\ by_ Tryz.prog 78 = some 24 /\ aelt Tryz.prog 78 = some (45, 1, 24) := ⟨by kernel_rfl, by kernel_rfl, by kernel_rfl, by kernel_rfl, by kernel_rfl, by kernel_rfl, by kernel_rfl⟩
theorem tf79 : tk Tryz.prog 79 = some (false, 1) /\ sk Tryz.prog 79 = .sl 151 /\ (Tryz.prog.underlying 79).isSome = true /\ el Tryz.prog 79 = some 151 /\ zc Tryz.prog 79 = some [.nil] /\ by_ Tryz.prog 79 = some 24 /\ aelt Tryz.prog 79 = some (151, 1, 24) := ⟨by kernel_rfl, by kernel_rfl, by kernel_rfl, by kernel_rfl, by kernel_rfl, by kernel_rfl, by kernel_rfl⟩
theorem tf80 : tk Tryz.prog 80 = some (false, 1) /\ sk Tryz.prog 80 = .sl 156 /\ (Tryz.prog.underlying 80).isSome = true /\ el Tryz.prog 80 = some 156 /\ zc Tryz.prog 80 = some [.nil] /\ by_ Tryz.prog 80 = some 24 /\ aelt Tryz.prog 80 = some (156, 1, 24) := ⟨by kernel_rfl, by kernel_rfl, by kernel_rfl, by kernel_rfl, by kernel_rfl, by kernel_rfl, by kernel_rfl⟩
theorem tf81 : tk Tryz.prog 81 = some (false, 1) /\ sk Tryz.prog 81 = .sl 161 /\ (Tryz.prog.underlying 81).isSome = true /\ el Tryz.prog 81 = some 161 /\ zc Tryz.prog 81 = some [.nil] /\ by_ Tryz.prog 81 = some 24 /\ aelt Tryz.prog 81 = some (161, 1, 24) := ⟨by kernel_rfl, by kernel_rfl, by kernel_rfl, by kernel_rfl, by kernel_rfl, by kernel_rfl, by kernel_rfl⟩
theorem tf82 : tk Tryz.prog 82 = some (false, 1) /\ sk Tryz.prog 82 = .sl 167 /\ (Tryz.prog.underlying 82).isSome = true /\ el Tryz.prog 82 = some 167 /\ zc Tryz.prog 82 = some [.nil] /\ by_ Tryz.prog 82 = some 24 /\ aelt Tryz.prog 82 = some (167, 1, 24) := ⟨by kernel_rfl, by kernel_rfl, by kernel_rfl, by kernel_rfl, by kernel_rfl, by kernel_rfl, by kernel_rfl⟩
theorem tf83 : tk Tryz.prog 83 = some (false, 1) /\ sk Tryz.prog 83 = .sl 173 /\ (Tryz.prog.underlying 83).isSome = true /\ el Tryz.prog 83 = some 173 /\ zc Tryz.prog 83 = some [.nil] /\ by_ Tryz.prog 83 = some 24 /\ aelt Tryz.prog 83 = some (173, 1, 24) := ⟨by kernel_rfl, by kernel_rfl, by kernel_rfl, by kernel_rfl, by kernel_rfl, by kernel_rfl, by kernel_rfl⟩
theorem tf84 : tk Tryz.prog 84 = some (false, 1) /\ sk Tryz.prog 84 = .sl 178 /\ (Tryz.prog.underlying 84).isSome = true /\ el Tryz.prog 84 = some 178 /\ zc Tryz.prog 84 = some [.nil] /\ by_ Tryz.prog 84 = some 24 /\ aelt Tryz.prog 84 = some (178, 1, 24) := ⟨by kernel_rfl, by kernel_rfl, by kernel_rfl, by kernel_rfl, by kernel_rfl, by kernel_rfl, by kernel_rfl⟩
theorem tf85 : tk Tryz.prog 85 = some (false, 1) /\ sk Tryz.prog 85 = .sl 183 /\ (Tryz.prog.underlying 85).isSome = true /\ el Tryz.prog 85 = some 183 /\ zc Tryz.prog 85 = some [.nil] /\ by_ Tryz.prog 85 = some 24 /\ aelt Tryz.prog 85 = some (183, 1, 24) := ⟨by kernel_rfl, by kernel_rfl, by kernel_rfl, by kernel_rfl, by kernel_rfl, by kernel_rfl, by kernel_rfl⟩
theorem tf86 : tk Tryz.prog 86 = some (false, 1) /\ sk Tryz.prog 86 = .sl 189 /\ (Tryz.prog.underlying 86).isSome = true /\ el Tryz.prog 86 = some 189 /\ zc Tryz.prog 86 = some [.nil] /\ by_ Tryz.prog 86 = some 24 /\ aelt Tryz.prog 86 = some (189, 1, 24) := ⟨by kernel_rfl, by kernel_rfl, by kernel_rfl, by kernel_rfl, by kernel_rfl, by kernel_rfl, by kernel_rfl⟩
theorem tf87 : tk Tryz.prog 87 = some (false, 1) /\ sk Tryz.prog 87 = .sl 193 /\ (Tryz.prog.underlying 87).isSome = true /\ el Tryz.prog 87 = some 193 /\ zc Tryz.prog 87 = some [.nil] /\ by_ Tryz.prog 87 = some 24 /\ aelt Tryz.prog 87 = some (193, 1, 24) := ⟨by kernel_rfl, by kernel_rfl, by kernel_rfl, by kernel_rfl, by kernel_rfl, by kernel_rfl, by kernel_rfl⟩
theorem tf88 : tk Tryz.prog 88 = some (false, 1) /\ sk Tryz.prog 88 = .sl 198 /\ (Tryz.prog.underlying 88).isSome = true /\ el Tryz.prog 88 = some 198 /\ zc Tryz.prog 88 = some [.nil] /\ by_ Tryz.prog 88 = some 24 /\ aelt Tryz.prog 88 = some (198, 1, 24) := ⟨by kernel_rfl, by kernel_rfl, by kernel_rfl, by kernel_rfl, by kernel_rfl, by kernel_rfl, by kernel_rfl⟩
theorem tf89 : tk Tryz.prog 89 = some (false, 1) /\ sk Tryz.prog 89 = .sl 203 /\ (Tryz.prog.underlying 89).isSome = true /\ el Tryz.prog 89 = some 203 /\ zc Tryz.prog 89 = some [.nil] /\ by_ Tryz.prog 89 = some 24 /\ aelt Tryz.prog 89 = some (203, 1, 24) := ⟨by kernel_rfl, by kernel_rfl, by kernel_rfl, by kernel_rfl, by kernel_rfl, by kernel_rfl, by kernel_rfl⟩
theorem tf90 : tk Tryz.prog 90 = some (false, 1) /\ sk Tryz.prog 90 = .sl 208 /\ (Tryz.prog.underlying 90).isSome = true /\ el Tryz.prog 90 = some 208 /\ zc Tryz.prog 90 = some [.nil] /\ by_ Tryz.prog 90 = some 24 /\ aelt Tryz.prog 90 = some (208, 1, 24) := ⟨by kernel_rfl, by kernel_rfl, by kernel_rfl, by kernel_rfl, by kernel_rfl, by kernel_rfl, by kernel_rfl⟩
theorem tf91 : tk Tryz.prog 91 = some (false, 1) /\ sk Tryz.prog 91 = .sl 212 /\ (Tryz.prog.underlying 91).isSome = true /\ el Tryz.prog 91 = some 212 /\ zc Tryz.prog 91 = some [.nil] /\ by_ Tryz.prog 91 = some 24 /\ aelt Tryz.prog 91 = some (212, 1, 24) := ⟨by kernel_rfl, by kernel_rfl, by kernel_rfl, by kernel_rfl, by kernel_rfl, by kernel_rfl, by kernel_rfl⟩
theorem tf93 : tk Tryz.prog 93 = some (true, 20) /\ sk Tryz.prog 93 = .st /\ (Tryz.prog.underlying 93).isSome = true /\ el Tryz.prog 93 = none /\ zc Tryz.prog 93 = some [.nil, .nil, .nil, .nil, .nil, .nil, .nil, .nil, .nil, .nil, .nil, .nil, .nil, .nil, .nil, .nil, .nil, .nil, .nil, .nil] /\ by_ Tryz.prog 93 = some 480 /\ places Tryz.prog 93 = some [(0, 1), (1, 1), (2, 1), (3, 1), (4, 1), (5, 1), (6, 1), (7, 1), (8, 1), (9, 1), (10, 1), (11, 1), (12, 1), (13, 1), (14, 1), (15, 1), (16, 1), (17, 1), (18, 1), (19, 1)] /\ fld Tryz.prog 93 0 = some (0, false, 1) /\ fld Tryz.prog 93 1 = some (1, false, 1) /\ fld Tryz.prog 93 2 = some (2, false, 1) /\ fld Tryz.prog 93 3 = some (3, false, 1) /\ fld Tryz.prog 93 4 = some (4, false, 1) /\ fld Tryz.prog 93 5 = some (5, false, 1) /\ fld Tryz.prog 93 6 = some (6, false, 1) /\ fld Tryz.prog 93 7 = some (7, false, 1) /\ fld Tryz.prog 93 8 = some (8, false, 1) /\ fld Tryz.prog 93 9 = some (9, false, 1) /\ fld Tryz.prog 93 10 = some (10, false, 1) /\ fld Tryz.prog 93 11 = some (11, false, 1) /\ fld Tryz.prog 93 12 = some (12, false, 1) /\ fld Tryz.prog 93 13 = some (13, false, 1) /\ fld Tryz.prog 93 14 = some (14, false, 1) /\ fld Tryz.prog 93 15 = some (15, false, 1) /\ fld Tryz.prog 93 16 = some (16, false, 1) /\ fld Tryz.prog 93 17 = some (17, false, 1) /\ fld Tryz.prog 93 18 = some (18, false, 1) /\ fld Tryz.prog 93 19 = some (19, false, 1) := ⟨by kernel_rfl, by kernel_rfl, by kernel_rfl, by kernel_rfl, by kernel_rfl, by kernel_rfl, by kernel_rfl, by kernel_rfl, by kernel_rfl, by kernel_rfl, by kernel_rfl, by kernel_rfl, by kernel_rfl, by kernel_rfl, by kernel_rfl, by kernel_rfl, by kernel_rfl, by kernel_rfl, by kernel_rfl, by kernel_rfl, by kernel_rfl, by kernel_rfl, by kernel_rfl, by kernel_rfl, by kernel_rfl, by kernel_rfl, by kernel_rfl⟩
end
set_option maxRecDepth 20000
section
def tbFlatN := And.intro (And.intro (And.intro (And.intro @tf3 @tf4) (And.intro @tf73 (And.intro @tf74 @tf75))) (And.intro (And.intro @tf76 (And.intro @tf77 @tf78)) (And.intro @tf79 (And.intro @tf36 @tf80)))) (And.intro (And.intro (And.intro @tf81 @tf82) (And.intro @tf83 (And.intro @tf84 @tf85))) (And.intro (And.intro @tf86 (And.intro @tf87 @tf88)) (And.intro @tf89 (And.intro @tf90 @tf91))))
variable (G : Nat -> AV)
theorem flatWords_nil : Pure Tryz.prog G 90 [.nil] (.bool true) := by
 intro σ
 refine Tri.of_awp mixed Tryz.func90 rfl (by kernel_rfl) (by kernel_rfl) (by simp [Tryz.ntmps90]) Tryz.results90 ?_
 repeat' (first | refine xs ?_ ?_ <;> intros | (refine wn ?_; intro bx hbx; try simp only [fb] at hbx) | ((refine make_buf (σ0 := σ) tf74.2.2.2.2.2.2 (by omega) (by simp) (AS.le.refl σ) (fun v2 σ2 hB2 hx2 => ?_); have hle2 := hB2.le; clear hB2 hx2)) | (((first | refine loop_keep mixed (fun n e => e 14 = .int .i64 0) 0 (by simp -dsimp only [↓bp, bq, br, seval, tbFlatN]; first | done | rfl) ?_ | refine loop_keep mixed (fun n e => e 11 = .int .i64 0) 0 (by simp -dsimp only [↓bp, bq, br, seval, tbFlatN]; first | done | rfl) ?_ | refine loop_keep mixed (fun n e => e 9 = .int .i64 0) 0 (by simp -dsimp only [↓bp, bq, br, seval, tbFlatN]; first | done | rfl) ?_ | refine loop_keep mixed (fun n e => e 6 = .int .i64 0) 0 (by simp -dsimp only [↓bp, bq, br, seval, tbFlatN]; first | done | rfl) ?_ | refine loop_keep mixed (fun n e => e 3 = .int .i64 0) 0 (by simp -dsimp only [↓bp, bq, br, seval, tbFlatN]; first | done | rfl) ?_); rintro n v h; simp -dsimp only [↓bp, bq, br, seval, tbFlatN] at h)) | refine wj ?_ | simp -dsimp only [↓bp, bq, br, seval, tbFlatN, *] | refine wz ?_ | fail)
theorem flatInts_nil : Pure Tryz.prog G 91 [.nil] (.bool true) := by
 intro σ
 refine Tri.of_awp mixed Tryz.func91 rfl (by kernel_rfl) (by kernel_rfl) (by simp [Tryz.ntmps91]) Tryz.results91 ?_
 repeat' (first | refine xs ?_ ?_ <;> intros | (refine wn ?_; intro bx hbx; try simp only [fb] at hbx) | ((refine make_buf (σ0 := σ) tf75.2.2.2.2.2.2 (by omega) (by simp) (AS.le.refl σ) (fun v2 σ2 hB2 hx2 => ?_); have hle2 := hB2.le; clear hB2 hx2)) | (((first | refine loop_keep mixed (fun n e => e 14 = .int .i64 0) 0 (by simp -dsimp only [↓bp, bq, br, seval, tbFlatN]; first | done | rfl) ?_ | refine loop_keep mixed (fun n e => e 11 = .int .i64 0) 0 (by simp -dsimp only [↓bp, bq, br, seval, tbFlatN]; first | done | rfl) ?_ | refine loop_keep mixed (fun n e => e 9 = .int .i64 0) 0 (by simp -dsimp only [↓bp, bq, br, seval, tbFlatN]; first | done | rfl) ?_ | refine loop_keep mixed (fun n e => e 6 = .int .i64 0) 0 (by simp -dsimp only [↓bp, bq, br, seval, tbFlatN]; first | done | rfl) ?_ | refine loop_keep mixed (fun n e => e 3 = .int .i64 0) 0 (by simp -dsimp only [↓bp, bq, br, seval, tbFlatN]; first | done | rfl) ?_); rintro n v h; simp -dsimp only [↓bp, bq, br, seval, tbFlatN] at h)) | refine wj ?_ | simp -dsimp only [↓bp, bq, br, seval, tbFlatN, *] | refine wz ?_ | fail)
theorem flatLongs_nil : Pure Tryz.prog G 92 [.nil] (.bool true) := by
 intro σ
 refine Tri.of_awp mixed Tryz.func92 rfl (by kernel_rfl) (by kernel_rfl) (by simp [Tryz.ntmps92]) Tryz.results92 ?_
 repeat' (first | refine xs ?_ ?_ <;> intros | (refine wn ?_; intro bx hbx; try simp only [fb] at hbx) | ((refine make_buf (σ0 := σ) tf76.2.2.2.2.2.2 (by omega) (by simp) (AS.le.refl σ) (fun v2 σ2 hB2 hx2 => ?_); have hle2 := hB2.le; clear hB2 hx2)) | (((first | refine loop_keep mixed (fun n e => e 14 = .int .i64 0) 0 (by simp -dsimp only [↓bp, bq, br, seval, tbFlatN]; first | done | rfl) ?_ | refine loop_keep mixed (fun n e => e 11 = .int .i64 0) 0 (by simp -dsimp only [↓bp, bq, br, seval, tbFlatN]; first | done | rfl) ?_ | refine loop_keep mixed (fun n e => e 9 = .int .i64 0) 0 (by simp -dsimp only [↓bp, bq, br, seval, tbFlatN]; first | done | rfl) ?_ | refine loop_keep mixed (fun n e => e 6 = .int .i64 0) 0 (by simp -dsimp only [↓bp, bq, br, seval, tbFlatN]; first | done | rfl) ?_ | refine loop_keep mixed (fun n e => e 3 = .int .i64 0) 0 (by simp -dsimp only [↓bp, bq, br, seval, tbFlatN]; first | done | rfl) ?_); rintro n v h; simp -dsimp only [↓bp, bq, br, seval, tbFlatN] at h)) | refine wj ?_ | simp -dsimp only [↓bp, bq, br, seval, tbFlatN, *] | refine wz ?_ | fail)
theorem flatTexts_nil : Pure Tryz.prog G 93 [.nil] (.bool true) := by
 intro σ
 refine Tri.of_awp mixed Tryz.func93 rfl (by kernel_rfl) (by kernel_rfl) (by simp [Tryz.ntmps93]) Tryz.results93 ?_
 repeat' (first | refine xs ?_ ?_ <;> intros | (refine wn ?_; intro bx hbx; try simp only [fb] at hbx) | ((refine make_buf (σ0 := σ) tf77.2.2.2.2.2.2 (by omega) (by simp) (AS.le.refl σ) (fun v2 σ2 hB2 hx2 => ?_); have hle2 := hB2.le; clear hB2 hx2)) | (((first | refine loop_keep mixed (fun n e => e 14 = .int .i64 0) 0 (by simp -dsimp only [↓bp, bq, br, seval, tbFlatN]; first | done | rfl) ?_ | refine loop_keep mixed (fun n e => e 11 = .int .i64 0) 0 (by simp -dsimp only [↓bp, bq, br, seval, tbFlatN]; first | done | rfl) ?_ | refine loop_keep mixed (fun n e => e 9 = .int .i64 0) 0 (by simp -dsimp only [↓bp, bq, br, seval, tbFlatN]; first | done | rfl) ?_ | refine loop_keep mixed (fun n e => e 6 = .int .i64 0) 0 (by simp -dsimp only [↓bp, bq, br, seval, tbFlatN]; first | done | rfl) ?_ | refine loop_keep mixed (fun n e => e 3 = .int .i64 0) 0 (by simp -dsimp only [↓bp, bq, br, seval, tbFlatN]; first | done | rfl) ?_); rintro n v h; simp -dsimp only [↓bp, bq, br, seval, tbFlatN] at h)) | refine wj ?_ | simp -dsimp only [↓bp, bq, br, seval, tbFlatN, *] | refine wz ?_ | fail)
theorem flatBytes_nil : Pure Tryz.prog G 94 [.nil] (.bool true) := by
 intro σ
 refine Tri.of_awp mixed Tryz.func94 rfl (by kernel_rfl) (by kernel_rfl) (by simp [Tryz.ntmps94]) Tryz.results94 ?_
 repeat' (first | refine xs ?_ ?_ <;> intros | (refine wn ?_; intro bx hbx; try simp only [fb] at hbx) | ((refine make_buf (σ0 := σ) tf78.2.2.2.2.2.2 (by omega) (by simp) (AS.le.refl σ) (fun v2 σ2 hB2 hx2 => ?_); have hle2 := hB2.le; clear hB2 hx2)) | (((first | refine loop_keep mixed (fun n e => e 14 = .int .i64 0) 0 (by simp -dsimp only [↓bp, bq, br, seval, tbFlatN]; first | done | rfl) ?_ | refine loop_keep mixed (fun n e => e 11 = .int .i64 0) 0 (by simp -dsimp only [↓bp, bq, br, seval, tbFlatN]; first | done | rfl) ?_ | refine loop_keep mixed (fun n e => e 9 = .int .i64 0) 0 (by simp -dsimp only [↓bp, bq, br, seval, tbFlatN]; first | done | rfl) ?_ | refine loop_keep mixed (fun n e => e 6 = .int .i64 0) 0 (by simp -dsimp only [↓bp, bq, br, seval, tbFlatN]; first | done | rfl) ?_ | refine loop_keep mixed (fun n e => e 3 = .int .i64 0) 0 (by simp -dsimp only [↓bp, bq, br, seval, tbFlatN]; first | done | rfl) ?_); rintro n v h; simp -dsimp only [↓bp, bq, br, seval, tbFlatN] at h)) | refine wj ?_ | simp -dsimp only [↓bp, bq, br, seval, tbFlatN, *] | refine wz ?_ | fail)
theorem flatFaults_nil : Pure Tryz.prog G 95 [.nil] (.bool true) := by
 intro σ
 refine Tri.of_awp mixed Tryz.func95 rfl (by kernel_rfl) (by kernel_rfl) (by simp [Tryz.ntmps95]) Tryz.results95 ?_
 repeat' (first | refine xs ?_ ?_ <;> intros | (refine wn ?_; intro bx hbx; try simp only [fb] at hbx) | ((refine make_buf (σ0 := σ) tf79.2.2.2.2.2.2 (by omega) (by simp) (AS.le.refl σ) (fun v2 σ2 hB2 hx2 => ?_); have hle2 := hB2.le; clear hB2 hx2)) | (((first | refine loop_keep mixed (fun n e => e 14 = .int .i64 0) 0 (by simp -dsimp only [↓bp, bq, br, seval, tbFlatN]; first | done | rfl) ?_ | refine loop_keep mixed (fun n e => e 11 = .int .i64 0) 0 (by simp -dsimp only [↓bp, bq, br, seval, tbFlatN]; first | done | rfl) ?_ | refine loop_keep mixed (fun n e => e 9 = .int .i64 0) 0 (by simp -dsimp only [↓bp, bq, br, seval, tbFlatN]; first | done | rfl) ?_ | refine loop_keep mixed (fun n e => e 6 = .int .i64 0) 0 (by simp -dsimp only [↓bp, bq, br, seval, tbFlatN]; first | done | rfl) ?_ | refine loop_keep mixed (fun n e => e 3 = .int .i64 0) 0 (by simp -dsimp only [↓bp, bq, br, seval, tbFlatN]; first | done | rfl) ?_); rintro n v h; simp -dsimp only [↓bp, bq, br, seval, tbFlatN] at h)) | refine wj ?_ | simp -dsimp only [↓bp, bq, br, seval, tbFlatN, *] | refine wz ?_ | fail)
theorem flatTokens_nil : Pure Tryz.prog G 97 [.nil] (.bool true) := by
 intro σ
 refine Tri.of_awp mixed Tryz.func97 rfl (by kernel_rfl) (by kernel_rfl) (by simp [Tryz.ntmps97]) Tryz.results97 ?_
 repeat' (first | refine xs ?_ ?_ <;> intros | (refine wn ?_; intro bx hbx; try simp only [fb] at hbx) | ((refine make_buf (σ0 := σ) tf80.2.2.2.2.2.2 (by omega) (by simp) (AS.le.refl σ) (fun v2 σ2 hB2 hx2 => ?_); have hle2 := hB2.le; clear hB2 hx2)) | (((first | refine loop_keep mixed (fun n e => e 14 = .int .i64 0) 0 (by simp -dsimp only [↓bp, bq, br, seval, tbFlatN]; first | done | rfl) ?_ | refine loop_keep mixed (fun n e => e 11 = .int .i64 0) 0 (by simp -dsimp only [↓bp, bq, br, seval, tbFlatN]; first | done | rfl) ?_ | refine loop_keep mixed (fun n e => e 9 = .int .i64 0) 0 (by simp -dsimp only [↓bp, bq, br, seval, tbFlatN]; first | done | rfl) ?_ | refine loop_keep mixed (fun n e => e 6 = .int .i64 0) 0 (by simp -dsimp only [↓bp, bq, br, seval, tbFlatN]; first | done | rfl) ?_ | refine loop_keep mixed (fun n e => e 3 = .int .i64 0) 0 (by simp -dsimp only [↓bp, bq, br, seval, tbFlatN]; first | done | rfl) ?_); rintro n v h; simp -dsimp only [↓bp, bq, br, seval, tbFlatN] at h)) | refine wj ?_ | simp -dsimp only [↓bp, bq, br, seval, tbFlatN, *] | refine wz ?_ | fail)
theorem flatNodes_nil : Pure Tryz.prog G 98 [.nil] (.bool true) := by
 intro σ
 refine Tri.of_awp mixed Tryz.func98 rfl (by kernel_rfl) (by kernel_rfl) (by simp [Tryz.ntmps98]) Tryz.results98 ?_
 repeat' (first | refine xs ?_ ?_ <;> intros | (refine wn ?_; intro bx hbx; try simp only [fb] at hbx) | ((refine make_buf (σ0 := σ) tf81.2.2.2.2.2.2 (by omega) (by simp) (AS.le.refl σ) (fun v2 σ2 hB2 hx2 => ?_); have hle2 := hB2.le; clear hB2 hx2)) | (((first | refine loop_keep mixed (fun n e => e 14 = .int .i64 0) 0 (by simp -dsimp only [↓bp, bq, br, seval, tbFlatN]; first | done | rfl) ?_ | refine loop_keep mixed (fun n e => e 11 = .int .i64 0) 0 (by simp -dsimp only [↓bp, bq, br, seval, tbFlatN]; first | done | rfl) ?_ | refine loop_keep mixed (fun n e => e 9 = .int .i64 0) 0 (by simp -dsimp only [↓bp, bq, br, seval, tbFlatN]; first | done | rfl) ?_ | refine loop_keep mixed (fun n e => e 6 = .int .i64 0) 0 (by simp -dsimp only [↓bp, bq, br, seval, tbFlatN]; first | done | rfl) ?_ | refine loop_keep mixed (fun n e => e 3 = .int .i64 0) 0 (by simp -dsimp only [↓bp, bq, br, seval, tbFlatN]; first | done | rfl) ?_); rintro n v h; simp -dsimp only [↓bp, bq, br, seval, tbFlatN] at h)) | refine wj ?_ | simp -dsimp only [↓bp, bq, br, seval, tbFlatN, *] | refine wz ?_ | fail)
theorem flatCores_nil : Pure Tryz.prog G 99 [.nil] (.bool true) := by
 intro σ
 refine Tri.of_awp mixed Tryz.func99 rfl (by kernel_rfl) (by kernel_rfl) (by simp [Tryz.ntmps99]) Tryz.results99 ?_
 repeat' (first | refine xs ?_ ?_ <;> intros | (refine wn ?_; intro bx hbx; try simp only [fb] at hbx) | ((refine make_buf (σ0 := σ) tf82.2.2.2.2.2.2 (by omega) (by simp) (AS.le.refl σ) (fun v2 σ2 hB2 hx2 => ?_); have hle2 := hB2.le; clear hB2 hx2)) | (((first | refine loop_keep mixed (fun n e => e 14 = .int .i64 0) 0 (by simp -dsimp only [↓bp, bq, br, seval, tbFlatN]; first | done | rfl) ?_ | refine loop_keep mixed (fun n e => e 11 = .int .i64 0) 0 (by simp -dsimp only [↓bp, bq, br, seval, tbFlatN]; first | done | rfl) ?_ | refine loop_keep mixed (fun n e => e 9 = .int .i64 0) 0 (by simp -dsimp only [↓bp, bq, br, seval, tbFlatN]; first | done | rfl) ?_ | refine loop_keep mixed (fun n e => e 6 = .int .i64 0) 0 (by simp -dsimp only [↓bp, bq, br, seval, tbFlatN]; first | done | rfl) ?_ | refine loop_keep mixed (fun n e => e 3 = .int .i64 0) 0 (by simp -dsimp only [↓bp, bq, br, seval, tbFlatN]; first | done | rfl) ?_); rintro n v h; simp -dsimp only [↓bp, bq, br, seval, tbFlatN] at h)) | refine wj ?_ | simp -dsimp only [↓bp, bq, br, seval, tbFlatN, *] | refine wz ?_ | fail)
theorem flatFuncs_nil : Pure Tryz.prog G 100 [.nil] (.bool true) := by
 intro σ
 refine Tri.of_awp mixed Tryz.func100 rfl (by kernel_rfl) (by kernel_rfl) (by simp [Tryz.ntmps100]) Tryz.results100 ?_
 repeat' (first | refine xs ?_ ?_ <;> intros | (refine wn ?_; intro bx hbx; try simp only [fb] at hbx) | ((refine make_buf (σ0 := σ) tf83.2.2.2.2.2.2 (by omega) (by simp) (AS.le.refl σ) (fun v2 σ2 hB2 hx2 => ?_); have hle2 := hB2.le; clear hB2 hx2)) | (((first | refine loop_keep mixed (fun n e => e 14 = .int .i64 0) 0 (by simp -dsimp only [↓bp, bq, br, seval, tbFlatN]; first | done | rfl) ?_ | refine loop_keep mixed (fun n e => e 11 = .int .i64 0) 0 (by simp -dsimp only [↓bp, bq, br, seval, tbFlatN]; first | done | rfl) ?_ | refine loop_keep mixed (fun n e => e 9 = .int .i64 0) 0 (by simp -dsimp only [↓bp, bq, br, seval, tbFlatN]; first | done | rfl) ?_ | refine loop_keep mixed (fun n e => e 6 = .int .i64 0) 0 (by simp -dsimp only [↓bp, bq, br, seval, tbFlatN]; first | done | rfl) ?_ | refine loop_keep mixed (fun n e => e 3 = .int .i64 0) 0 (by simp -dsimp only [↓bp, bq, br, seval, tbFlatN]; first | done | rfl) ?_); rintro n v h; simp -dsimp only [↓bp, bq, br, seval, tbFlatN] at h)) | refine wj ?_ | simp -dsimp only [↓bp, bq, br, seval, tbFlatN, *] | refine wz ?_ | fail)
theorem flatPrograms_nil : Pure Tryz.prog G 101 [.nil] (.bool true) := by
 intro σ
 refine Tri.of_awp mixed Tryz.func101 rfl (by kernel_rfl) (by kernel_rfl) (by simp [Tryz.ntmps101]) Tryz.results101 ?_
 repeat' (first | refine xs ?_ ?_ <;> intros | (refine wn ?_; intro bx hbx; try simp only [fb] at hbx) | ((refine make_buf (σ0 := σ) tf84.2.2.2.2.2.2 (by omega) (by simp) (AS.le.refl σ) (fun v2 σ2 hB2 hx2 => ?_); have hle2 := hB2.le; clear hB2 hx2)) | (((first | refine loop_keep mixed (fun n e => e 14 = .int .i64 0) 0 (by simp -dsimp only [↓bp, bq, br, seval, tbFlatN]; first | done | rfl) ?_ | refine loop_keep mixed (fun n e => e 11 = .int .i64 0) 0 (by simp -dsimp only [↓bp, bq, br, seval, tbFlatN]; first | done | rfl) ?_ | refine loop_keep mixed (fun n e => e 9 = .int .i64 0) 0 (by simp -dsimp only [↓bp, bq, br, seval, tbFlatN]; first | done | rfl) ?_ | refine loop_keep mixed (fun n e => e 6 = .int .i64 0) 0 (by simp -dsimp only [↓bp, bq, br, seval, tbFlatN]; first | done | rfl) ?_ | refine loop_keep mixed (fun n e => e 3 = .int .i64 0) 0 (by simp -dsimp only [↓bp, bq, br, seval, tbFlatN]; first | done | rfl) ?_); rintro n v h; simp -dsimp only [↓bp, bq, br, seval, tbFlatN] at h)) | refine wj ?_ | simp -dsimp only [↓bp, bq, br, seval, tbFlatN, *] | refine wz ?_ | fail)
theorem flatInstrs_nil : Pure Tryz.prog G 102 [.nil] (.bool true) := by
 intro σ
 refine Tri.of_awp mixed Tryz.func102 rfl (by kernel_rfl) (by kernel_rfl) (by simp [Tryz.ntmps102]) Tryz.results102 ?_
 repeat' (first | refine xs ?_ ?_ <;> intros | (refine wn ?_; intro bx hbx; try simp only [fb] at hbx) | ((refine make_buf (σ0 := σ) tf85.2.2.2.2.2.2 (by omega) (by simp) (AS.le.refl σ) (fun v2 σ2 hB2 hx2 => ?_); have hle2 := hB2.le; clear hB2 hx2)) | (((first | refine loop_keep mixed (fun n e => e 14 = .int .i64 0) 0 (by simp -dsimp only [↓bp, bq, br, seval, tbFlatN]; first | done | rfl) ?_ | refine loop_keep mixed (fun n e => e 11 = .int .i64 0) 0 (by simp -dsimp only [↓bp, bq, br, seval, tbFlatN]; first | done | rfl) ?_ | refine loop_keep mixed (fun n e => e 9 = .int .i64 0) 0 (by simp -dsimp only [↓bp, bq, br, seval, tbFlatN]; first | done | rfl) ?_ | refine loop_keep mixed (fun n e => e 6 = .int .i64 0) 0 (by simp -dsimp only [↓bp, bq, br, seval, tbFlatN]; first | done | rfl) ?_ | refine loop_keep mixed (fun n e => e 3 = .int .i64 0) 0 (by simp -dsimp only [↓bp, bq, br, seval, tbFlatN]; first | done | rfl) ?_); rintro n v h; simp -dsimp only [↓bp, bq, br, seval, tbFlatN] at h)) | refine wj ?_ | simp -dsimp only [↓bp, bq, br, seval, tbFlatN, *] | refine wz ?_ | fail)
theorem flatEntries_nil : Pure Tryz.prog G 103 [.nil] (.bool true) := by
 intro σ
 refine Tri.of_awp mixed Tryz.func103 rfl (by kernel_rfl) (by kernel_rfl) (by simp [Tryz.ntmps103]) Tryz.results103 ?_
 repeat' (first | refine xs ?_ ?_ <;> intros | (refine wn ?_; intro bx hbx; try simp only [fb] at hbx) | ((refine make_buf (σ0 := σ) tf86.2.2.2.2.2.2 (by omega) (by simp) (AS.le.refl σ) (fun v2 σ2 hB2 hx2 => ?_); have hle2 := hB2.le; clear hB2 hx2)) | (((first | refine loop_keep mixed (fun n e => e 14 = .int .i64 0) 0 (by simp -dsimp only [↓bp, bq, br, seval, tbFlatN]; first | done | rfl) ?_ | refine loop_keep mixed (fun n e => e 11 = .int .i64 0) 0 (by simp -dsimp only [↓bp, bq, br, seval, tbFlatN]; first | done | rfl) ?_ | refine loop_keep mixed (fun n e => e 9 = .int .i64 0) 0 (by simp -dsimp only [↓bp, bq, br, seval, tbFlatN]; first | done | rfl) ?_ | refine loop_keep mixed (fun n e => e 6 = .int .i64 0) 0 (by simp -dsimp only [↓bp, bq, br, seval, tbFlatN]; first | done | rfl) ?_ | refine loop_keep mixed (fun n e => e 3 = .int .i64 0) 0 (by simp -dsimp only [↓bp, bq, br, seval, tbFlatN]; first | done | rfl) ?_); rintro n v h; simp -dsimp only [↓bp, bq, br, seval, tbFlatN] at h)) | refine wj ?_ | simp -dsimp only [↓bp, bq, br, seval, tbFlatN, *] | refine wz ?_ | fail)
theorem flatCodes_nil : Pure Tryz.prog G 104 [.nil] (.bool true) := by
 intro σ
 refine Tri.of_awp mixed Tryz.func104 rfl (by kernel_rfl) (by kernel_rfl) (by simp [Tryz.ntmps104]) Tryz.results104 ?_
 repeat' (first | refine xs ?_ ?_ <;> intros | (refine wn ?_; intro bx hbx; try simp only [fb] at hbx) | ((refine make_buf (σ0 := σ) tf87.2.2.2.2.2.2 (by omega) (by simp) (AS.le.refl σ) (fun v2 σ2 hB2 hx2 => ?_); have hle2 := hB2.le; clear hB2 hx2)) | (((first | refine loop_keep mixed (fun n e => e 14 = .int .i64 0) 0 (by simp -dsimp only [↓bp, bq, br, seval, tbFlatN]; first | done | rfl) ?_ | refine loop_keep mixed (fun n e => e 11 = .int .i64 0) 0 (by simp -dsimp only [↓bp, bq, br, seval, tbFlatN]; first | done | rfl) ?_ | refine loop_keep mixed (fun n e => e 9 = .int .i64 0) 0 (by simp -dsimp only [↓bp, bq, br, seval, tbFlatN]; first | done | rfl) ?_ | refine loop_keep mixed (fun n e => e 6 = .int .i64 0) 0 (by simp -dsimp only [↓bp, bq, br, seval, tbFlatN]; first | done | rfl) ?_ | refine loop_keep mixed (fun n e => e 3 = .int .i64 0) 0 (by simp -dsimp only [↓bp, bq, br, seval, tbFlatN]; first | done | rfl) ?_); rintro n v h; simp -dsimp only [↓bp, bq, br, seval, tbFlatN] at h)) | refine wj ?_ | simp -dsimp only [↓bp, bq, br, seval, tbFlatN, *] | refine wz ?_ | fail)
theorem flatSteps_nil : Pure Tryz.prog G 105 [.nil] (.bool true) := by
 intro σ
 refine Tri.of_awp mixed Tryz.func105 rfl (by kernel_rfl) (by kernel_rfl) (by simp [Tryz.ntmps105]) Tryz.results105 ?_
 repeat' (first | refine xs ?_ ?_ <;> intros | (refine wn ?_; intro bx hbx; try simp only [fb] at hbx) | ((refine make_buf (σ0 := σ) tf88.2.2.2.2.2.2 (by omega) (by simp) (AS.le.refl σ) (fun v2 σ2 hB2 hx2 => ?_); have hle2 := hB2.le; clear hB2 hx2)) | (((first | refine loop_keep mixed (fun n e => e 14 = .int .i64 0) 0 (by simp -dsimp only [↓bp, bq, br, seval, tbFlatN]; first | done | rfl) ?_ | refine loop_keep mixed (fun n e => e 11 = .int .i64 0) 0 (by simp -dsimp only [↓bp, bq, br, seval, tbFlatN]; first | done | rfl) ?_ | refine loop_keep mixed (fun n e => e 9 = .int .i64 0) 0 (by simp -dsimp only [↓bp, bq, br, seval, tbFlatN]; first | done | rfl) ?_ | refine loop_keep mixed (fun n e => e 6 = .int .i64 0) 0 (by simp -dsimp only [↓bp, bq, br, seval, tbFlatN]; first | done | rfl) ?_ | refine loop_keep mixed (fun n e => e 3 = .int .i64 0) 0 (by simp -dsimp only [↓bp, bq, br, seval, tbFlatN]; first | done | rfl) ?_); rintro n v h; simp -dsimp only [↓bp, bq, br, seval, tbFlatN] at h)) | refine wj ?_ | simp -dsimp only [↓bp, bq, br, seval, tbFlatN, *] | refine wz ?_ | fail)
theorem flatEndeds_nil : Pure Tryz.prog G 106 [.nil] (.bool true) := by
 intro σ
 refine Tri.of_awp mixed Tryz.func106 rfl (by kernel_rfl) (by kernel_rfl) (by simp [Tryz.ntmps106]) Tryz.results106 ?_
 repeat' (first | refine xs ?_ ?_ <;> intros | (refine wn ?_; intro bx hbx; try simp only [fb] at hbx) | ((refine make_buf (σ0 := σ) tf89.2.2.2.2.2.2 (by omega) (by simp) (AS.le.refl σ) (fun v2 σ2 hB2 hx2 => ?_); have hle2 := hB2.le; clear hB2 hx2)) | (((first | refine loop_keep mixed (fun n e => e 14 = .int .i64 0) 0 (by simp -dsimp only [↓bp, bq, br, seval, tbFlatN]; first | done | rfl) ?_ | refine loop_keep mixed (fun n e => e 11 = .int .i64 0) 0 (by simp -dsimp only [↓bp, bq, br, seval, tbFlatN]; first | done | rfl) ?_ | refine loop_keep mixed (fun n e => e 9 = .int .i64 0) 0 (by simp -dsimp only [↓bp, bq, br, seval, tbFlatN]; first | done | rfl) ?_ | refine loop_keep mixed (fun n e => e 6 = .int .i64 0) 0 (by simp -dsimp only [↓bp, bq, br, seval, tbFlatN]; first | done | rfl) ?_ | refine loop_keep mixed (fun n e => e 3 = .int .i64 0) 0 (by simp -dsimp only [↓bp, bq, br, seval, tbFlatN]; first | done | rfl) ?_); rintro n v h; simp -dsimp only [↓bp, bq, br, seval, tbFlatN] at h)) | refine wj ?_ | simp -dsimp only [↓bp, bq, br, seval, tbFlatN, *] | refine wz ?_ | fail)
theorem flatNameds_nil : Pure Tryz.prog G 107 [.nil] (.bool true) := by
 intro σ
 refine Tri.of_awp mixed Tryz.func107 rfl (by kernel_rfl) (by kernel_rfl) (by simp [Tryz.ntmps107]) Tryz.results107 ?_
 repeat' (first | refine xs ?_ ?_ <;> intros | (refine wn ?_; intro bx hbx; try simp only [fb] at hbx) | ((refine make_buf (σ0 := σ) tf90.2.2.2.2.2.2 (by omega) (by simp) (AS.le.refl σ) (fun v2 σ2 hB2 hx2 => ?_); have hle2 := hB2.le; clear hB2 hx2)) | (((first | refine loop_keep mixed (fun n e => e 14 = .int .i64 0) 0 (by simp -dsimp only [↓bp, bq, br, seval, tbFlatN]; first | done | rfl) ?_ | refine loop_keep mixed (fun n e => e 11 = .int .i64 0) 0 (by simp -dsimp only [↓bp, bq, br, seval, tbFlatN]; first | done | rfl) ?_ | refine loop_keep mixed (fun n e => e 9 = .int .i64 0) 0 (by simp -dsimp only [↓bp, bq, br, seval, tbFlatN]; first | done | rfl) ?_ | refine loop_keep mixed (fun n e => e 6 = .int .i64 0) 0 (by simp -dsimp only [↓bp, bq, br, seval, tbFlatN]; first | done | rfl) ?_ | refine loop_keep mixed (fun n e => e 3 = .int .i64 0) 0 (by simp -dsimp only [↓bp, bq, br, seval, tbFlatN]; first | done | rfl) ?_); rintro n v h; simp -dsimp only [↓bp, bq, br, seval, tbFlatN] at h)) | refine wj ?_ | simp -dsimp only [↓bp, bq, br, seval, tbFlatN, *] | refine wz ?_ | fail)
theorem flatSeens_nil : Pure Tryz.prog G 108 [.nil] (.bool true) := by
 intro σ
 refine Tri.of_awp mixed Tryz.func108 rfl (by kernel_rfl) (by kernel_rfl) (by simp [Tryz.ntmps108]) Tryz.results108 ?_
 repeat' (first | refine xs ?_ ?_ <;> intros | (refine wn ?_; intro bx hbx; try simp only [fb] at hbx) | ((refine make_buf (σ0 := σ) tf91.2.2.2.2.2.2 (by omega) (by simp) (AS.le.refl σ) (fun v2 σ2 hB2 hx2 => ?_); have hle2 := hB2.le; clear hB2 hx2)) | (((first | refine loop_keep mixed (fun n e => e 14 = .int .i64 0) 0 (by simp -dsimp only [↓bp, bq, br, seval, tbFlatN]; first | done | rfl) ?_ | refine loop_keep mixed (fun n e => e 11 = .int .i64 0) 0 (by simp -dsimp only [↓bp, bq, br, seval, tbFlatN]; first | done | rfl) ?_ | refine loop_keep mixed (fun n e => e 9 = .int .i64 0) 0 (by simp -dsimp only [↓bp, bq, br, seval, tbFlatN]; first | done | rfl) ?_ | refine loop_keep mixed (fun n e => e 6 = .int .i64 0) 0 (by simp -dsimp only [↓bp, bq, br, seval, tbFlatN]; first | done | rfl) ?_ | refine loop_keep mixed (fun n e => e 3 = .int .i64 0) 0 (by simp -dsimp only [↓bp, bq, br, seval, tbFlatN]; first | done | rfl) ?_); rintro n v h; simp -dsimp only [↓bp, bq, br, seval, tbFlatN] at h)) | refine wj ?_ | simp -dsimp only [↓bp, bq, br, seval, tbFlatN, *] | refine wz ?_ | fail)
end
end Go.Proofs.YtdhbdhopnpmboaaGreatDoor
