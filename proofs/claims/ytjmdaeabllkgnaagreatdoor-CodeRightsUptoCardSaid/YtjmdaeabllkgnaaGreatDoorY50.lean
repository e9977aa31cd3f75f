/- The reference's rows, on abstract values. -/
import Derived.Test.YtjmdaeabllkgnaaGreatDoorY39
import Derived.Test.YtjmdaeabllkgnaaGreatDoorY18
import Derived.Test.YtjmdaeabllkgnaaGreatDoorY36
import Derived.Test.YtjmdaeabllkgnaaGreatDoorY48
import Derived.Test.YtjmdaeabllkgnaaGreatDoorY49
import Derived.Test.YtjmdaeabllkgnaaGreatDoorY26
import Derived.Test.YtjmdaeabllkgnaaGreatDoorY44
import Derived.Test.YtjmdaeabllkgnaaGreatDoorY45
import Derived.Test.YtjmdaeabllkgnaaGreatDoorY30
import Derived.Test.YtjmdaeabllkgnaaGreatDoorY22
import Derived.Test.YtjmdaeabllkgnaaGreatDoorRows
import Derived.Test.YtjmdaeabllkgnaaGreatDoorY19
import Derived.Test.YtjmdaeabllkgnaaGreatDoorY31
import Derived.Test.YtjmdaeabllkgnaaGreatDoorY23
set_option linter.unusedVariables false
set_option linter.unusedSimpArgs false
set_option maxRecDepth 20000
set_option linter.defProp false
namespace Go.Proofs.YtjmdaeabllkgnaaGreatDoor
open Go Go.Av
section
variable (G : Nat -> AV)
end
set_option maxRecDepth 20000
section
variable (G : Nat -> AV)
end
set_option maxRecDepth 20000
section
variable (G : Nat -> AV)
theorem rright_all (t : Term) (hb : t.bulk <= 1000000000) : Pure Tryz.prog G 50 [t.enc] (.bool (right t)) := rrightT_pure G t (rsz_pure G t hb)
end
set_option maxRecDepth 20000
section
def tbRCodG := And.intro (And.intro (And.intro (And.intro (And.intro @tf3 @tf4) (And.intro @tf5 @tf9)) (And.intro (And.intro @tf37 @tf39) (And.intro @tf23 @tf30))) (And.intro (And.intro (And.intro @tf53 @tf22) (And.intro @tf26 @tf24)) (And.intro (And.intro @tf58 @isv_rowOf) (And.intro @flat_rowOf (And.intro @len_rowOf @ix_rowOf))))) (And.intro (And.intro (And.intro (And.intro @isv_encs @flat_encs) (And.intro @len_encs @ix_encs)) (And.intro (And.intro @Ins.flat_enc @Ins.isv_enc) (And.intro @Ins.fold_enc (And.intro @Ent.flat_enc @Ent.isv_enc)))) (And.intro (And.intro (And.intro @Ent.fold_enc @Cod.flat_enc) (And.intro @Cod.isv_enc @Cod.fold_enc)) (And.intro (And.intro @Term.flat_enc @Term.isv_enc) (And.intro @Term.fold_enc (And.intro @ares_tmpc @ares_cellc)))))
variable {G : Nat -> AV}
theorem rRight_long {es : List Ent} {is : List Ins} {cs : List Term} (h : 16384 < es.length \/ 16384 < is.length \/ 16384 < cs.length) (b1 : es.length <= 1000000000) (b2 : is.length <= 1000000000) (b3 : cs.length <= 1000000000) : Pure Tryz.prog G 13 [.agg [rowOf Ent.enc es, rowOf Ins.enc is, encs cs]] (.bool false) := by
 intro σ
 by_cases q1 : 16384 < es.length
 ·have c1 : ((16384 : Int) < es.length) = True := eq_true (by omega)
  clear h q1
  refine Tri.of_awp mixed Tryz.func13 rfl (by kernel_rfl) (by kernel_rfl) (by simp [Tryz.ntmps13]) Tryz.results13 ?_
  repeat' (first | refine xs ?_ ?_ <;> intros | (refine wn ?_; intro bx hbx; try simp only [fb] at hbx) | refine wj ?_ | simp -dsimp only [↓bp, bq, br, seval, tbRCodG, *] | refine wz ?_ | fail)
  all_goals rfl
 ·have c1 : ((16384 : Int) < es.length) = False := eq_false (by omega)
  by_cases q2 : 16384 < is.length
  ·have c2 : ((16384 : Int) < is.length) = True := eq_true (by omega)
   clear h q1 q2
   refine Tri.of_awp mixed Tryz.func13 rfl (by kernel_rfl) (by kernel_rfl) (by simp [Tryz.ntmps13]) Tryz.results13 ?_
   repeat' (first | refine xs ?_ ?_ <;> intros | (refine wn ?_; intro bx hbx; try simp only [fb] at hbx) | refine wj ?_ | simp -dsimp only [↓bp, bq, br, seval, tbRCodG, *] | refine wz ?_ | fail)
   all_goals rfl
  ·have c2 : ((16384 : Int) < is.length) = False := eq_false (by omega)
   have c3 : ((16384 : Int) < cs.length) = True := eq_true (by omega)
   clear h q1 q2
   refine Tri.of_awp mixed Tryz.func13 rfl (by kernel_rfl) (by kernel_rfl) (by simp [Tryz.ntmps13]) Tryz.results13 ?_
   repeat' (first | refine xs ?_ ?_ <;> intros | (refine wn ?_; intro bx hbx; try simp only [fb] at hbx) | refine wj ?_ | simp -dsimp only [↓bp, bq, br, seval, tbRCodG, *] | refine wz ?_ | fail)
   all_goals rfl
theorem rRight_bare {is : List Ins} {cs : List Term} (h : 0 < is.length) (b2 : is.length <= 16384) (b3 : cs.length <= 16384) : Pure Tryz.prog G 13 [.agg [rowOf Ent.enc [], rowOf Ins.enc is, encs cs]] (.bool false) := by
 intro σ
 have c2 : ((16384 : Int) < is.length) = False := eq_false (by omega)
 have c3 : ((16384 : Int) < cs.length) = False := eq_false (by omega)
 have c4 : ((0 : Int) < is.length) = True := eq_true (by omega)
 clear h
 refine Tri.of_awp mixed Tryz.func13 rfl (by kernel_rfl) (by kernel_rfl) (by simp [Tryz.ntmps13]) Tryz.results13 ?_
 repeat' (first | refine xs ?_ ?_ <;> intros | (refine wn ?_; intro bx hbx; try simp only [fb] at hbx) | refine wj ?_ | simp -dsimp only [↓bp, bq, br, seval, tbRCodG, List.length_nil, *] | refine wz ?_ | fail)
 all_goals rfl
theorem rRightC_pure (c : Cod) (hc : c.bulk <= 1000000000) (hi : ∀ i, i ∈ c.instrs -> i.bulk <= 1000000) : Pure Tryz.prog G 13 [c.enc] (.bool (codRight c)) := by
 obtain ⟨es, is, cs⟩ := c
 have h1 := len_bulkL Ent.bulk_pos es
 have h2 := len_bulkL Ins.bulk_pos is
 have h3 := len_le_bulks cs
 unfold Cod.bulk at hc
 simp only at hc hi
 have hR : RA G es is cs := ⟨fun t ht => rright_all G t (by have := bulk_mem ht; omega), fun e i z hm => rinsRight_pure G ⟨es, is, cs⟩ e e.pos z i (hi i hm)⟩
 show Pure _ _ _ [.agg [rowOf Ent.enc es, rowOf Ins.enc is, encs cs]] _
 by_cases hl : 16384 < es.length \/ 16384 < is.length \/ 16384 < cs.length
 ·have e : codRight ⟨es, is, cs⟩ = false := by
   cases hh : codRight ⟨es, is, cs⟩ with
   | false => rfl
   | true =>
    simp only [codRight, Bool.and_eq_true, decide_eq_true_eq] at hh
    omega
  rw [e]
  exact rRight_long hl (by omega) (by omega) (by omega)
 ·have b1 : es.length <= 16384 := by omega
  have b2 : is.length <= 16384 := by omega
  have b3 : cs.length <= 16384 := by omega
  by_cases hn : es.length = 0
  ·obtain rfl := List.eq_nil_of_length_eq_zero hn
   by_cases hm : is.length = 0
   ·obtain rfl := List.eq_nil_of_length_eq_zero hm
    have e : codRight ⟨[], [], cs⟩ = cs.all right := by simp [codRight, entsOK, b3]
    rw [e]
    exact rRight_none hR b3
   ·have e : codRight ⟨[], is, cs⟩ = false := by
     have : is ≠ [] := fun h => hm (by rw [h]; rfl)
     simp [codRight, this]
    rw [e]
    exact rRight_bare (by omega) b2 b3
  ·have e : codRight ⟨es, is, cs⟩ = (cs.all right && entsOK ⟨es, is, cs⟩ 0 es) := by
    have : es ≠ [] := fun h => hn (by rw [h]; rfl)
    simp [codRight, this, b1, b2, b3]
   rw [e]
   exact rRight_some hR b1 b2 b3 hn
end
set_option maxRecDepth 20000
section
def tbLawCodRt := And.intro (And.intro (And.intro (And.intro (And.intro @tf3 @tf4) (And.intro @tf5 (And.intro @tf9 @tf37))) (And.intro (And.intro @tf39 @tf23) (And.intro @tf30 (And.intro @tf35 @tf53)))) (And.intro (And.intro (And.intro @tf22 @tf26) (And.intro @tf24 (And.intro @tf58 @isv_rowOf))) (And.intro (And.intro @flat_rowOf @len_rowOf) (And.intro @ix_rowOf (And.intro @isv_encs @flat_encs))))) (And.intro (And.intro (And.intro (And.intro @len_encs @Ins.flat_enc) (And.intro @Ins.isv_enc (And.intro @Ins.fold_enc @Ent.flat_enc))) (And.intro (And.intro @Ent.isv_enc @Ent.fold_enc) (And.intro @Cod.flat_enc (And.intro @Cod.isv_enc @Cod.fold_enc)))) (And.intro (And.intro (And.intro @isv_rowA @flat_rowA) (And.intro @isv_lentsEt (And.intro @flat_lentsEt @isv_lentsIs))) (And.intro (And.intro @flat_lentsIs @isv_lents) (And.intro @flat_lents (And.intro @ares_tmpc @ares_cellc)))))
variable {G : Nat -> AV}
theorem crights_great {c : Cod} {p : Int} (w : Pure Tryz.prog G 9 [] (.bool true)) (g : Pure Tryz.prog G 8 [c.enc] (.bool true)) : Pure Tryz.prog G 3 [c.enc, .int .i64 p] (.bool true) := by
 intro σ
 refine Tri.of_awp mixed Tryz.func3 rfl (by kernel_rfl) (by kernel_rfl) (by simp [Tryz.ntmps3]) Tryz.results3 ?_
 repeat' (first | refine xs ?_ ?_ <;> intros | (refine wn ?_; intro bx hbx; try simp only [fb] at hbx) | refine wp g ?_ | refine wp w ?_ | refine wj ?_ | simp -dsimp only [↓bp, bq, br, seval, tbLawCodRt, *] | refine wz ?_ | fail)
 all_goals rfl
structure RT (G : Nat -> AV) (C D : AV) (p : Int) (L : List Int) (R : Bool) : Prop where
 w : Pure Tryz.prog G 9 [] (.bool true)
 g : Pure Tryz.prog G 8 [C] (.bool false)
 l : Pure Tryz.prog G 10 [C] D
 n0 : L = [] -> Pure Tryz.prog G 11 [D, .int .i64 p] .nil
 n1 : L ≠ [] -> ∀ σ : AS, Tri Tryz.prog G 11 [D, .int .i64 p] σ fun r s => MadeRow L.length 1 3 (L.map intA) σ r s
 cr : Pure Tryz.prog G 12 [D] (.bool R)
 rr : Pure Tryz.prog G 13 [C] (.bool R)
 rn : Pure Tryz.prog G 15 [C, .int .i64 p] (rowOf intA L)
 sm : Pure Tryz.prog G 14 [rowOf intA L, rowOf intA L] (.bool true)
 k : Pure Tryz.prog G 16 [D, C] (.bool true)
 hL : L.length <= 1000000000
set_option maxHeartbeats 4000000 in
theorem crights_go {es : List Ent} {is : List Ins} {cs : List Term} {p : Int} {L : List Int} {R : Bool} (h : RT G (.agg [rowOf Ent.enc es, rowOf Ins.enc is, encs cs]) (.agg [lentsEt es, lentsIs is, lents cs]) p L R) : Pure Tryz.prog G 3 [.agg [rowOf Ent.enc es, rowOf Ins.enc is, encs cs], .int .i64 p] (.bool true) := by
 obtain ⟨w, g, l, r0, r1, cr, rr, rn, sm, k, hL⟩ := h
 intro σ
 refine Tri.back (Q := fun r => r = .bool true) ?_
 refine Tri.of_awp mixed Tryz.func3 rfl (by kernel_rfl) (by kernel_rfl) (by simp [Tryz.ntmps3]) Tryz.results3 ?_
 repeat' (first | (refine wn ?_; intro bx hbx; try simp only [fb] at hbx) | refine wp g ?_ | refine wi ?_ | simp -dsimp only [↓bp, bq, br, seval, tbLawCodRt, *] | refine wz ?_ | fail)
 rename Nat => b0
 rename σ.fresh b0 => hb0
 obtain ⟨S, hS⟩ : ∃ S : AS, S = σ.setBox b0 [rowOf Ent.enc es, rowOf Ins.enc is, encs cs] := ⟨_, rfl⟩
 have hSb : S.box b0 = some [rowOf Ent.enc es, rowOf Ins.enc is, encs cs] := by rw [hS]; exact AS.set_get
 have hSl : σ.le S := by rw [hS]; exact (AS.le.refl σ).setBox hb0.1 _
 rw [<- hS]
 clear hS hb0
 repeat' (first | (refine wn ?_; intro bx hbx; try simp only [fb] at hbx) | refine wp l ?_ | refine wi ?_ | simp -dsimp only [↓bp, bq, br, seval, tbLawCodRt, *] | refine wz ?_ | fail)
 obtain ⟨S2, hS2⟩ : ∃ S2 : AS, S2 = S.setBox bx [lentsEt es, lentsIs is, lents cs] := ⟨_, rfl⟩
 have f3 : S2.box bx = some [lentsEt es, lentsIs is, lents cs] := by rw [hS2]; exact AS.set_get
 have hl2 : S.le S2 := by rw [hS2]; exact (AS.le.refl S).setBox hbx.1 _
 have l2 : σ.le S2 := hSl.trans hl2
 have f0 := hl2.box _ _ hSb
 rw [<- hS2]
 clear hS2 hbx hl2 hSb hSl l g
 by_cases hLe : L = []
 ·-- it goes on nowhere
  have h0 := r0 hLe
  clear r1 r0
  subst hLe
  have HX : PureC Tryz.prog G 14 [.nil, rowOf intA []] S2 (.bool true) := fun σ' _ => (sm.lessArgs (.cons Le.nil (.cons (Le.refl _) .nil))) σ'
  have HA : Tri Tryz.prog G 17 [.sl .full [.nil, .nil] []] S2 fun r s5 => r = .bool true /\ LeX (InS [none, none]) S2 s5 := apartInts_tri G [none, none] .full (fun i j b n m hi hj => by
   match i, hi with
   | 0, hi => simp at hi
   | 1, hi => simp at hi
   | i + 2, hi => simp at hi) (by simp) (fun k r hr => by
   match k, hr with
   | 0, hr => simp at hr; subst hr; simp [rlen]
   | 1, hr => simp at hr; subst hr; simp [rlen]
   | k + 2, hr => simp at hr) S2 (fun j b n hj => by
   match j, hj with
   | 0, hj => simp at hj
   | 1, hj => simp at hj
   | j + 2, hj => simp at hj)
  have HF : ∀ s5, LeX (InS [none, none]) S2 s5 -> σ.le s5 := fun s5 h5 => ⟨fun c cs hc => h5.box c cs (fun ⟨n, hn⟩ => by simp at hn) (l2.box c cs hc), fun c x hc => h5.tip c x (l2.tip c x hc), fun c x hc => h5.ty c x (l2.ty c x hc)⟩
  repeat' (first | refine xs ?_ ?_ <;> intros | (refine wn ?_; intro bx hbx; try simp only [fb] at hbx) | refine wp h0 ?_ | refine wj ?_ | simp -dsimp only [↓bp, bq, br, seval, tbLawCodRt, *] | refine wz ?_ | fail)
  clear h0 sm l2
  generalize S2 = S3 at *
  cases R with
  | true =>
   repeat' (first | refine xs ?_ ?_ <;> intros | (refine wn ?_; intro bx hbx; try simp only [fb] at hbx) | refine wp cr ?_ | refine wp rr ?_ | refine wp rn ?_ | (refine PureC.head HX (AS.le.refl _) ?_) | refine wp k ?_ | ((refine Tri.mono HA ?_; rintro r s5 ⟨rfl, hX⟩)) | refine wp w ?_ | refine wj ?_ | simp -dsimp only [↓bp, bq, br, seval, tbLawCodRt, *] | refine wz ?_ | fail)
   all_goals exact finishW_some _ (AS.le.refl _) ⟨rfl, HF _ hX⟩
  | false =>
   repeat' (first | refine xs ?_ ?_ <;> intros | (refine wn ?_; intro bx hbx; try simp only [fb] at hbx) | refine wp cr ?_ | refine wp rr ?_ | refine wp rn ?_ | (refine PureC.head HX (AS.le.refl _) ?_) | refine wp k ?_ | ((refine Tri.mono HA ?_; rintro r s5 ⟨rfl, hX⟩)) | refine wp w ?_ | refine wj ?_ | simp -dsimp only [↓bp, bq, br, seval, tbLawCodRt, *] | refine wz ?_ | fail)
   all_goals exact finishW_some _ (AS.le.refl _) ⟨rfl, HF _ hX⟩
 ·have hr := r1 hLe
  clear r1 r0
  have hn0 : L.length <= 1000000000 := hL
  refine draw_mk [2, 5] (fun _ => Mk.row L.length 1 3 (L.map intA)) 8 (by decide +kernel) rfl rfl ?_
  intro hinf
  refine m_read (v := .agg [lentsEt es, lentsIs is, lents cs]) rfl (by simp only [rdv]; simp -dsimp only [↓bp, bq, br, seval, tbLawCodRt, *]) ?_
  refine m_read (v := .int .i64 p) rfl (by simp only [rdv]; simp -dsimp only [↓bp, bq, br, seval, tbLawCodRt, *]) ?_
  refine m_made rfl rfl (fun σ' hle => ?_) (fun q1 hf1 => ?_)
  ·simp -dsimp only [↓bp, bq, br, seval, tbLawCodRt]
   exact (hr σ').madeRow
  refine m_read (v := .agg [lentsEt es, lentsIs is, lents cs]) rfl (by simp only [rdv]; simp -dsimp only [↓bp, bq, br, seval, tbLawCodRt, *]) ?_
  refine m_read (v := .int .i64 p) rfl (by simp only [rdv]; simp -dsimp only [↓bp, bq, br, seval, tbLawCodRt, *]) ?_
  refine m_made rfl rfl (fun σ' hle => ?_) (fun q2 hf2 => ?_)
  ·simp -dsimp only [↓bp, bq, br, seval, tbLawCodRt]
   exact (hr σ').madeRow
  refine m_read (v := .bs q1 L.length 1 3) rfl (by simp only [rdv]; simp -dsimp only [↓bp, bq, br, seval, tbLawCodRt]; first | done | rfl) ?_
  refine m_read (v := .bs q2 L.length 1 3) rfl (by simp only [rdv]; simp -dsimp only [↓bp, bq, br, seval, tbLawCodRt]; first | done | rfl) ?_
  refine Eq.mpr m_nil ?_
  have hne : q1 ≠ q2 := fun e => by
   have := hf2.1
   rw [<- e] at this
   simp [Mk.row, AS.setBox] at this
  have z1 : S2.box q1 = none := hf1.1
  have z2 : S2.box q2 = none := by
   have := hf2.1
   simpa [AS.setBox, Ne.symm hne] using this
  obtain ⟨S3, hS3⟩ : ∃ S3 : AS, S3 = (S2.setBox q1 (Mk.row L.length 1 3 (L.map intA)).box).setBox q2 (Mk.row L.length 1 3 (L.map intA)).box := ⟨_, rfl⟩
  have hl3 : S2.le S3 := by rw [hS3]; exact ((AS.le.refl S2).setBox z1 _).setBox z2 _
  have w1 : S3.box q1 = some (L.map intA) := by rw [hS3]; simp [AS.setBox, Mk.row, hne]
  have w2 : S3.box q2 = some (L.map intA) := by rw [hS3]; simp [AS.setBox, Mk.row]
  rw [<- hS3]
  simp only [Mk.row]
  have y1 : σ.box q1 = none := l2.noBox z1
  have y2 : σ.box q2 = none := l2.noBox z2
  have l3 := l2.trans hl3
  replace f3 := hl3.box _ _ f3
  replace f0 := hl3.box _ _ f0
  have HX : PureC Tryz.prog G 14 [.bs q1 L.length 1 3, rowOf intA L] S3 (.bool true) := fun σ' hl => sm.lend (σ := σ') rfl (.cons (row_lendI (hl.box _ _ w1)) (.cons (Lend.id _) .nil))
  have HA : Tri Tryz.prog G 17 [.sl .full [.bs q1 L.length 1 3, .bs q2 L.length 1 3] []] S3 fun r s5 => r = .bool true /\ LeX (InS [some (q1, L.length), some (q2, L.length)]) S3 s5 := apartInts_tri G [some (q1, L.length), some (q2, L.length)] .full (two_rowsI hne) (by simp) (fun k r hr => by
   match k, hr with
   | 0, hr => simp at hr; subst hr; exact hn0
   | 1, hr => simp at hr; subst hr; exact hn0
   | k + 2, hr => simp at hr) S3 (fun j b n hj => by
   match j, hj with
   | 0, hj => simp at hj; obtain ⟨rfl, rfl⟩ := hj; exact ⟨_, w1, by rw [List.length_map]; omega⟩
   | 1, hj => simp at hj; obtain ⟨rfl, rfl⟩ := hj; exact ⟨_, w2, by rw [List.length_map]; omega⟩
   | j + 2, hj => simp at hj)
  have HF : ∀ s5, LeX (InS [some (q1, L.length), some (q2, L.length)]) S3 s5 -> σ.le s5 := fun s5 h5 => ⟨fun c cs hc => h5.box c cs (fun ⟨n, hn⟩ => by
   simp only [List.mem_cons, Option.some.injEq, Prod.mk.injEq, List.not_mem_nil, or_false] at hn
   rcases hn with ⟨rfl, _⟩ | ⟨rfl, _⟩
   ·rw [y1] at hc; cases hc
   ·rw [y2] at hc; cases hc) (l3.box c cs hc), fun c x hc => h5.tip c x (l3.tip c x hc), fun c x hc => h5.ty c x (l3.ty c x hc)⟩
  clear hS3 hf1 hf2 hl3 w1 w2 y1 y2 l2 l3 z1 z2 hr sm hinf hne hLe
  cases R with
  | true =>
   repeat' (first | refine xs ?_ ?_ <;> intros | (refine wn ?_; intro bx hbx; try simp only [fb] at hbx) | refine wp cr ?_ | refine wp rr ?_ | refine wp rn ?_ | (refine PureC.head HX (AS.le.refl _) ?_) | refine wp k ?_ | ((refine Tri.mono HA ?_; rintro r s5 ⟨rfl, hX⟩)) | refine wp w ?_ | refine wj ?_ | simp -dsimp only [↓bp, bq, br, seval, tbLawCodRt, *] | refine wz ?_ | fail)
   all_goals exact finishW_some _ (AS.le.refl _) ⟨rfl, HF _ hX⟩
  | false =>
   repeat' (first | refine xs ?_ ?_ <;> intros | (refine wn ?_; intro bx hbx; try simp only [fb] at hbx) | refine wp cr ?_ | refine wp rr ?_ | refine wp rn ?_ | (refine PureC.head HX (AS.le.refl _) ?_) | refine wp k ?_ | ((refine Tri.mono HA ?_; rintro r s5 ⟨rfl, hX⟩)) | refine wp w ?_ | refine wj ?_ | simp -dsimp only [↓bp, bq, br, seval, tbLawCodRt, *] | refine wz ?_ | fail)
   all_goals exact finishW_some _ (AS.le.refl _) ⟨rfl, HF _ hX⟩
theorem crights_law (hg : GlobC G) (c : Cod) (p : Int) (hc : c.bulk <= 2000000) (hp : i64R p) : Pure Tryz.prog G 3 [c.enc, .int .i64 p] (.bool true) := by
 have w := awake_pure hg
 have g := greatC_pure c (G := G) (by omega)
 cases hgr : greatC c with
 | true => rw [hgr] at g; exact crights_great w g
 | false =>
  rw [hgr] at g
  have hm := great_mem hgr
  have hlt : (nexts c p).length <= 1000000000 := by
   unfold nexts nextsOf
   repeat' split
   all_goals first | exact Nat.zero_le _ | (simp only [List.length_cons, List.length_nil]; omega)
  have sm := sameInts_pure G (nexts c p) (nexts c p) hlt hlt
  rw [decide_eq_true rfl] at sm
  have hR : RT G c.enc c.lent p (nexts c p) (codRight c) := {
   w := w, g := g
   l := lentCod_pure G c (by omega)
   n0 := fun h => (next_nil hg c (by omega) p h).lessArgs (.cons c.lent_le (.cons (Le.refl _) .nil))
   n1 := fun h σ => Tri.weaken (.cons c.lent_le (.cons (Le.refl _) .nil)) (next_row hg c (by omega) p h σ)
   cr := (codRight_pure hg c (by omega)).lessArgs (.cons c.lent_le .nil)
   rr := rRightC_pure c (by omega) (fun i hi => by have := hm i hi; omega)
   rn := rnext_pure G c (by omega) p hp
   sm := sm
   k := keptCod_pure G c (by omega)
   hL := hlt }
  obtain ⟨es, is, cs⟩ := c
  exact crights_go hR
end
set_option maxRecDepth 100000
section
open Go Go.Av Go.RowKit
variable {H : Type}
theorem bulks_le {l : List Term} {xs : List (DataW H)} (hl : l.length = xs.length) (h : ∀ (i : Nat) x a, xs[i]? = some x -> l[i]? = some a -> a.bulk <= Rows.uptoBulk x) : bulks l <= Rows.uptoBulkAll xs := by
 induction l generalizing xs with
 | nil => simp [bulks]
 | cons a l ih =>
  cases xs with
  | nil => simp at hl
  | cons x xs =>
   have h0 := h 0 x a rfl rfl
   have h1 := ih (xs := xs) (by simpa using hl) (fun i y b hy hb => h (i + 1) y b (by simpa using hy) (by simpa using hb))
   simp only [bulks, Rows.uptoBulkAll]; omega
theorem lims_le {l : List UInt32} {xs : List (DataW H)} (hl : l.length = xs.length) (h : ∀ (i : Nat) x (a : UInt32), xs[i]? = some x -> l[i]? = some a -> 1 <= Rows.uptoBulk x) : l.length <= Rows.uptoBulkAll xs := by
 induction l generalizing xs with
 | nil => simp
 | cons a l ih =>
  cases xs with
  | nil => simp at hl
  | cons x xs =>
   have h0 := h 0 x a rfl rfl
   have h1 := ih (xs := xs) (by simpa using hl) (fun i y b hy hb => h (i + 1) y b (by simpa using hy) (by simpa using hb))
   simp only [List.length_cons, Rows.uptoBulkAll]; omega
theorem u8_of {m : Int} (h : (Lit.int .u8 m).wf = true) : ∃ k : UInt8, m = (k.toNat : Int) := by
 have hr : 0 <= m /\ m < 256 := by
  have h0 : IntKind.u8.min = 0 := by decide
  have h1 : IntKind.u8.max = 255 := by decide
  simp only [Lit.wf, Bool.and_eq_true, decide_eq_true_eq, h0, h1] at h
  omega
 refine ⟨UInt8.ofNat m.toNat, ?_⟩
 rw [UInt8.toNat_ofNat']
 omega
theorem u32_of {m : Int} (h : (Lit.int .u32 m).wf = true) : ∃ k : UInt32, m = (k.toNat : Int) := by
 have hr : 0 <= m /\ m < 4294967296 := by
  have h0 : IntKind.u32.min = 0 := by decide
  have h1 : IntKind.u32.max = 4294967295 := by decide
  simp only [Lit.wf, Bool.and_eq_true, decide_eq_true_eq, h0, h1] at h
  omega
 refine ⟨UInt32.ofNat m.toNat, ?_⟩
 rw [UInt32.toNat_ofNat']
 omega
theorem read_term : ∀ (n : Nat) (d : DataW H), tyW Tryz.prog n 58 d -> ∃ t : Term, avW d = t.enc /\ t.bulk <= Rows.uptoBulk d := by
 intro n
 induction n using Nat.strongRecOn with
 | _ n ih =>
  intro d h
  obtain ⟨ds, m, rfl, rfl, hl, hf⟩ := tyW_struct h Tryz.underlying58
  match ds, hl with
  | [d0, d1, d2, d3, d4, d5, d6], _ =>
   obtain ⟨k, rfl, hk⟩ := tyW_int (hf 0 _ d0 rfl rfl) Tryz.underlying55
   obtain ⟨g, rfl⟩ := tyW_bool (hf 1 _ d1 rfl rfl) Tryz.underlying4
   obtain ⟨xs, sp, q, hx, hq, hxs⟩ := tyW_slice (hf 2 _ d2 rfl rfl) Tryz.underlying56
   obtain ⟨s, rfl, _⟩ := tyW_str (hf 3 _ d3 rfl rfl) Tryz.underlying9
   obtain ⟨nn, rfl, _⟩ := tyW_int (hf 4 _ d4 rfl rfl) Tryz.underlying3
   obtain ⟨ys, sq, q2, hy, hq2, hys⟩ := tyW_slice (hf 5 _ d5 rfl rfl) Tryz.underlying24
   obtain ⟨zs, sr, q3, hz, hq3, hzs⟩ := tyW_slice (hf 6 _ d6 rfl rfl) Tryz.underlying24
   obtain ⟨k', rfl⟩ := u8_of hk
   obtain ⟨l, h1, h2, h3⟩ := slice_dec (enc := limA) (good := fun x _ => 1 <= Rows.uptoBulk x) (fun x hx => by
    obtain ⟨z, rfl, hz⟩ := tyW_int hx Tryz.underlying169
    obtain ⟨z', rfl⟩ := u32_of hz
    exact ⟨z', by simp [avW, limA], by simp [Rows.uptoBulk]⟩) xs hxs
   obtain ⟨l2, i1, i2, i3⟩ := slice_dec (enc := Term.enc) (good := fun x a => a.bulk <= Rows.uptoBulk x) (fun x hx => ih q2 (by omega) x hx) ys hys
   obtain ⟨l3, j1, j2, j3⟩ := slice_dec (enc := Term.enc) (good := fun x a => a.bulk <= Rows.uptoBulk x) (fun x hx => ih q3 (by omega) x hx) zs hzs
   have hb := lims_le h2 h3
   have hb2 := bulks_le i2 i3
   have hb3 := bulks_le j2 j3
   refine ⟨.mk k' g l s nn l2 l3, ?_, ?_⟩
   ·have e1 : flat (avW d2) = [lims l] := by
     rcases hx with ⟨rfl, rfl⟩ | rfl
     ·simp only [avWs, List.length_nil, List.length_eq_zero_iff] at h1 h2
      subst h2
      simp [avW, flat, lims]
     ·simp [avW, flat, lims, h1]
    have e2 : flat (avW d5) = [.sl .none (l2.map Term.enc) []] := by
     rcases hy with ⟨rfl, rfl⟩ | rfl
     ·simp only [avWs, List.length_nil, List.length_eq_zero_iff] at i1 i2
      subst i2
      simp [avW, flat]
     ·simp [avW, flat, i1]
    have e3 : flat (avW d6) = [.sl .none (l3.map Term.enc) []] := by
     rcases hz with ⟨rfl, rfl⟩ | rfl
     ·simp only [avWs, List.length_nil, List.length_eq_zero_iff] at j1 j2
      subst j2
      simp [avW, flat]
     ·simp [avW, flat, j1]
    have e4 : avW (.agg [.lit (.int .u8 (k'.toNat : Int)), .lit (.bool g), d2, .lit (.string s), .lit (.int .i64 nn), d5, d6] : DataW H) = .agg (flat (.int .u8 (k'.toNat : Int)) ++ (flat (.bool g) ++ (flat (avW d2) ++ (flat (.str s) ++ (flat (.int .i64 nn) ++ (flat (avW d5) ++ (flat (avW d6) ++ []))))))) := by
     simp [avW, flatsW]
    rw [e4, e1, e2, e3]
    simp [flat, Term.enc, lims]
   ·rw [Term.bulk]
    rcases hx with ⟨rfl, rfl⟩ | rfl <;> rcases hy with ⟨rfl, rfl⟩ | rfl <;> rcases hz with ⟨rfl, rfl⟩ | rfl <;> simp only [Rows.uptoBulk, Rows.uptoBulkAll] at hb hb2 hb3 ⊢ <;> omega
def S : List TypeId := [58, 55, 4, 56, 169, 9, 3, 24, 242, 5, 171, 282]
theorem laid_tab {P : Program} {W : World} {S : List TypeId} (hS : closedT P S = true) {laid : List (String × DataW Unit)} (hL : laidMet P laid W) {n : String} {d : DataW Unit} (hm : (n, d) ∈ laid) {g : Nat} {t : TypeId} (hg : P.globalNamed n = some g)
  (ht : (P.globals[g]?).map (·.type) = some t) (htS : t ∈ S) {k : IntKind} {zs : List Int} (hcs : flat (avW d) = zs.map fun z => .int k z) : VR (entryK W) (.tab (zs.map fun z => .int k z)) (.pointer (some ⟨g, 0, none⟩)) := by
 obtain ⟨ps, h1, _⟩ := hL
 obtain ⟨g', t', vs, fuel, p, hg', ht', hvar, hd⟩ := laidVars_mem laid ps h1 hm
 obtain rfl := Option.some.inj (hg.symm.trans hg')
 obtain rfl := Option.some.inj (ht.symm.trans ht')
 obtain ⟨_, h2, _⟩ := read_all (K := entryK W) hS (fun b o v h => h) fuel t _ _ htS hd
 simp only [hcs] at h2
 have hsz := h2.size
 have hv : vs = (zs.map fun z => Value.int k z).toArray := by
  apply Array.toList_inj.1
  refine List.ext_getElem? fun j => ?_
  by_cases hj : j < zs.length
  ·have h3 := h2.at_ j (by simpa using hj)
   simp only [List.getElem_map, VR.int_iff] at h3
   have hj2 : j < vs.toList.length := by rw [hsz]; simpa using hj
   rw [List.getD_eq_getElem?_getD, List.getElem?_eq_getElem hj2] at h3
   simp only [Option.getD_some] at h3
   rw [List.getElem?_eq_getElem hj2, h3]
   simp [hj]
  ·rw [List.getElem?_eq_none (by simp at hsz ⊢; omega), List.getElem?_eq_none (by simp; omega)]
 unfold World.var? at hvar
 rw [hg] at hvar
 simp only [Option.bind_some] at hvar
 cases hw : W.heap[g]? with
 | none => rw [hw] at hvar; simp at hvar
 | some o =>
  rw [hw] at hvar
  cases o with
  | cells cs E fz =>
   simp only [Option.some.injEq] at hvar
   subst hvar
   rw [hv] at hw
   exact .tab _ g E fz (Array.getElem?_eq_some_iff.1 hw).1 hw
  | _ => simp at hvar
end
set_option maxRecDepth 100000
section
open Go Go.Av Go.RowKit Go.ChangeShapes
variable {H : Type}
theorem i64_ofR {m : Int} (h : (Lit.int .i64 m).wf = true) : i64R m := by
 have h0 : IntKind.i64.min = -9223372036854775808 := by decide
 have h1 : IntKind.i64.max = 9223372036854775807 := by decide
 simp only [Lit.wf, Bool.and_eq_true, decide_eq_true_eq, h0, h1] at h
 exact h
theorem bulkL_le {α : Type} {f : α -> Nat} {p : α -> Prop} {l : List α} {xs : List (DataW H)} (hl : l.length = xs.length) (h : ∀ (i : Nat) x a, xs[i]? = some x -> l[i]? = some a -> f a <= Rows.uptoBulk x /\ p a) : bulkL f l <= Rows.uptoBulkAll xs /\ ∀ a, a ∈ l -> p a := by
 induction l generalizing xs with
 | nil => exact ⟨by simp [bulkL], fun a ha => by cases ha⟩
 | cons a l ih =>
  cases xs with
  | nil => simp at hl
  | cons x xs =>
   have h0 := h 0 x a rfl rfl
   have h1 := ih (xs := xs) (by simpa using hl) (fun i y b hy hb => h (i + 1) y b (by simpa using hy) (by simpa using hb))
   refine ⟨by simp only [bulkL, Rows.uptoBulkAll]; omega, fun b hb => ?_⟩
   rcases List.mem_cons.1 hb with rfl | hb
   ·exact h0.2
   ·exact h1.2 b hb
theorem read_intR (n : Nat) (d : DataW H) (h : tyW Tryz.prog n 3 d) : ∃ m : Int, avW d = intA m /\ (1 <= Rows.uptoBulk d /\ i64R m) := by
 obtain ⟨k, rfl, hk⟩ := tyW_int h Tryz.underlying3
 exact ⟨k, by simp [avW, intA], by simp only [Rows.uptoBulk]; omega, i64_ofR hk⟩
theorem len_bulk1 {α : Type} (l : List α) : bulkL (fun _ => 1) l = l.length := by
 induction l with
 | nil => rfl
 | cons x l ih => simp only [bulkL, ih, List.length_cons]; omega
theorem read_ent (n : Nat) (d : DataW H) (h : tyW Tryz.prog n 53 d) : ∃ x : Ent, avW d = x.enc /\ (x.bulk <= Rows.uptoBulk d /\ x.Rng) := by
 obtain ⟨ds, m, rfl, rfl, hl, hf⟩ := tyW_struct h Tryz.underlying53
 match ds, hl with
 | [d0, d1, d2, d3, d4], _ =>
  obtain ⟨s0, rfl, hs0⟩ := tyW_str (hf 0 _ d0 rfl rfl) Tryz.underlying9
  obtain ⟨k1, rfl, hk1⟩ := tyW_int (hf 1 _ d1 rfl rfl) Tryz.underlying3
  obtain ⟨k2, rfl, hk2⟩ := tyW_int (hf 2 _ d2 rfl rfl) Tryz.underlying3
  obtain ⟨k3, rfl, hk3⟩ := tyW_int (hf 3 _ d3 rfl rfl) Tryz.underlying3
  obtain ⟨k4, rfl, hk4⟩ := tyW_int (hf 4 _ d4 rfl rfl) Tryz.underlying3
  refine ⟨⟨s0, k1, k2, k3, k4⟩, ?_, ?_, ⟨i64_ofR hk1, i64_ofR hk2, i64_ofR hk3, i64_ofR hk4⟩⟩
  ·have ee : avW (.agg [.lit (.string s0), .lit (.int .i64 k1), .lit (.int .i64 k2), .lit (.int .i64 k3), .lit (.int .i64 k4)] : DataW H) = .agg (flat (.str s0) ++ (flat (.int .i64 k1) ++ (flat (.int .i64 k2) ++ (flat (.int .i64 k3) ++ (flat (.int .i64 k4) ++ []))))) := by
    simp [avW, flatsW]
   rw [ee]
   simp [flat, Ent.enc, rowOf, encs]
  ·unfold Ent.bulk
   simp only [Rows.uptoBulk, Rows.uptoBulkAll] at ⊢ <;> omega
theorem read_ins (n : Nat) (d : DataW H) (h : tyW Tryz.prog n 39 d) : ∃ x : Ins, avW d = x.enc /\ (x.bulk <= Rows.uptoBulk d /\ x.Rng) := by
 obtain ⟨ds, m, rfl, rfl, hl, hf⟩ := tyW_struct h Tryz.underlying39
 match ds, hl with
 | [d0, d1, d2, d3, d4, d5, d6, d7], _ =>
  obtain ⟨k0, rfl, hk0⟩ := tyW_int (hf 0 _ d0 rfl rfl) Tryz.underlying37
  obtain ⟨u0, rfl⟩ := u8_of hk0
  obtain ⟨k1, rfl, hk1⟩ := tyW_int (hf 1 _ d1 rfl rfl) Tryz.underlying3
  obtain ⟨k2, rfl, hk2⟩ := tyW_int (hf 2 _ d2 rfl rfl) Tryz.underlying3
  obtain ⟨k3, rfl, hk3⟩ := tyW_int (hf 3 _ d3 rfl rfl) Tryz.underlying3
  obtain ⟨k4, rfl, hk4⟩ := tyW_int (hf 4 _ d4 rfl rfl) Tryz.underlying3
  obtain ⟨k5, rfl, hk5⟩ := tyW_int (hf 5 _ d5 rfl rfl) Tryz.underlying3
  obtain ⟨s6, rfl, hs6⟩ := tyW_str (hf 6 _ d6 rfl rfl) Tryz.underlying9
  obtain ⟨xs7, sp7, q7, hx7, hq7, hxs7⟩ := tyW_slice (hf 7 _ d7 rfl rfl) Tryz.underlying30
  obtain ⟨l7, h17, h27, h37⟩ := slice_dec (enc := intA) (good := fun x a => 1 <= Rows.uptoBulk x /\ i64R a) (fun x hx => read_intR q7 x hx) xs7 hxs7
  have hb7 := bulkL_le (f := (fun _ => 1)) (p := i64R) h27 h37
  rw [len_bulk1] at hb7
  refine ⟨⟨u0, k1, k2, k3, k4, k5, s6, l7⟩, ?_, ?_, ⟨i64_ofR hk1, i64_ofR hk2, i64_ofR hk3, i64_ofR hk4, i64_ofR hk5, hb7.2⟩⟩
  ·have e7 : flat (avW d7) = [.sl .none (l7.map intA) []] := by
    rcases hx7 with ⟨rfl, rfl⟩ | rfl
    ·simp only [avWs, List.length_nil, List.length_eq_zero_iff] at h17 h27
     subst h27
     simp [avW, flat]
    ·simp [avW, flat, h17]
   have ee : avW (.agg [.lit (.int .u8 u0.toNat), .lit (.int .i64 k1), .lit (.int .i64 k2), .lit (.int .i64 k3), .lit (.int .i64 k4), .lit (.int .i64 k5), .lit (.string s6), d7] : DataW H) = .agg (flat (.int .u8 u0.toNat) ++ (flat (.int .i64 k1) ++ (flat (.int .i64 k2) ++ (flat (.int .i64 k3) ++ (flat (.int .i64 k4) ++ (flat (.int .i64 k5) ++ (flat (.str s6) ++ (flat (avW d7) ++ [])))))))) := by
    simp [avW, flatsW]
   rw [ee, e7]
   simp [flat, Ins.enc, rowOf, encs, Ins.opI]
  ·have hb7 := hb7.1
   unfold Ins.bulk
   rcases hx7 with ⟨rfl, rfl⟩ | rfl <;> simp only [Rows.uptoBulk, Rows.uptoBulkAll] at hb7 ⊢ <;> omega
theorem read_cod (n : Nat) (d : DataW H) (h : tyW Tryz.prog n 26 d) : ∃ x : Cod, avW d = x.enc /\ (x.bulk <= Rows.uptoBulk d /\ x.Rng) := by
 obtain ⟨ds, m, rfl, rfl, hl, hf⟩ := tyW_struct h Tryz.underlying26
 match ds, hl with
 | [d0, d1, d2], _ =>
  obtain ⟨xs0, sp0, q0, hx0, hq0, hxs0⟩ := tyW_slice (hf 0 _ d0 rfl rfl) Tryz.underlying22
  obtain ⟨l0, h10, h20, h30⟩ := slice_dec (enc := Ent.enc) (good := fun x a => a.bulk <= Rows.uptoBulk x /\ a.Rng) (fun x hx => read_ent q0 x hx) xs0 hxs0
  have hb0 := bulkL_le (f := Ent.bulk) (p := Ent.Rng) h20 h30
  obtain ⟨xs1, sp1, q1, hx1, hq1, hxs1⟩ := tyW_slice (hf 1 _ d1 rfl rfl) Tryz.underlying23
  obtain ⟨l1, h11, h21, h31⟩ := slice_dec (enc := Ins.enc) (good := fun x a => a.bulk <= Rows.uptoBulk x /\ a.Rng) (fun x hx => read_ins q1 x hx) xs1 hxs1
  have hb1 := bulkL_le (f := Ins.bulk) (p := Ins.Rng) h21 h31
  obtain ⟨xs2, sp2, q2, hx2, hq2, hxs2⟩ := tyW_slice (hf 2 _ d2 rfl rfl) Tryz.underlying24
  obtain ⟨l2, h12, h22, h32⟩ := slice_dec (enc := Term.enc) (good := fun x a => a.bulk <= Rows.uptoBulk x /\ True) (fun x hx => let ⟨t, h1, h2⟩ := read_term q2 x hx; ⟨t, h1, h2, trivial⟩) xs2 hxs2
  have hb2 := bulkL_le (f := Term.bulk) (p := (fun _ => True)) h22 h32
  rw [<- bulks_L] at hb2
  refine ⟨⟨l0, l1, l2⟩, ?_, ?_, ⟨hb0.2, hb1.2⟩⟩
  ·have e0 : flat (avW d0) = [.sl .none (l0.map Ent.enc) []] := by
    rcases hx0 with ⟨rfl, rfl⟩ | rfl
    ·simp only [avWs, List.length_nil, List.length_eq_zero_iff] at h10 h20
     subst h20
     simp [avW, flat]
    ·simp [avW, flat, h10]
   have e1 : flat (avW d1) = [.sl .none (l1.map Ins.enc) []] := by
    rcases hx1 with ⟨rfl, rfl⟩ | rfl
    ·simp only [avWs, List.length_nil, List.length_eq_zero_iff] at h11 h21
     subst h21
     simp [avW, flat]
    ·simp [avW, flat, h11]
   have e2 : flat (avW d2) = [.sl .none (l2.map Term.enc) []] := by
    rcases hx2 with ⟨rfl, rfl⟩ | rfl
    ·simp only [avWs, List.length_nil, List.length_eq_zero_iff] at h12 h22
     subst h22
     simp [avW, flat]
    ·simp [avW, flat, h12]
   have ee : avW (.agg [d0, d1, d2] : DataW H) = .agg (flat (avW d0) ++ (flat (avW d1) ++ (flat (avW d2) ++ []))) := by
    simp [avW, flatsW]
   rw [ee, e0, e1, e2]
   simp [flat, Cod.enc, rowOf, encs]
  ·have hb0 := hb0.1
   have hb1 := hb1.1
   have hb2 := hb2.1
   unfold Cod.bulk
   rcases hx0 with ⟨rfl, rfl⟩ | rfl <;> rcases hx1 with ⟨rfl, rfl⟩ | rfl <;> rcases hx2 with ⟨rfl, rfl⟩ | rfl <;> simp only [Rows.uptoBulk, Rows.uptoBulkAll] at hb0 hb1 hb2 ⊢ <;> omega
end
set_option maxRecDepth 100000
section
open Go Go.Av Go.RowKit Go.ChangeShapes
variable {H : Type}
def SC : List TypeId := [58, 55, 4, 56, 169, 9, 3, 24, 242, 5, 171, 282, 37, 39, 23, 30, 53, 22, 26, 66, 112, 257, 258]
theorem closedSC : closedT Tryz.prog SC = true := by kernel_rfl
def GvC (m : Int) : Nat -> AV := fun g => if g = 1 then .rp (words.map AV.str) else if g = 4 then .tab powV else if g = 0 then .rp shpCells else if g = 3 then .rp builtinCells else if g = 2 then .rp [.int .i64 m] else .raw (.pointer (some ⟨g, 0, none⟩))
theorem globGvC (m : Int) : GlobC (GvC m) := { words := rfl, pow := rfl, shapes := rfl, builtin := rfl, most := ⟨m, rfl⟩ }
theorem shapes_av : flat (avW (H := Unit) Rows.laid_pigeonhole_code_shapes) = shpCells := by kernel_rfl
theorem builtin_av : flat (avW (H := Unit) Rows.laid_pigeonhole_lint_builtin) = builtinCells := by kernel_rfl
theorem int_globC {W : World} {g : Nat} (h : ∃ m, W.cell? ⟨g, 0, none⟩ = some (.int .i64 m)) : ∃ m : Int, VR (entryK W) (.rp [.int .i64 m]) (.pointer (some ⟨g, 0, none⟩)) := by
 obtain ⟨m, hm⟩ := h
 refine ⟨m, .rp _ g 0 (fun _ => .int .i64 m) (fun c hc => by simp at hc; subst hc; rfl) (fun j hj => ?_) (fun j hj => ?_)⟩
 ·have : j = 0 := by simpa using hj
  subst this; exact hm
 ·have : j = 0 := by simpa using hj
  subst this; exact .int .i64 m
theorem entry_globC {W : World} {laid : List (String × DataW Unit)} (hL : laidMet Tryz.prog laid W) (h1 : ("pigeonhole/term.words", Rows.laid_pigeonhole_term_words) ∈ laid) (h2 : ("internal/strconv.uint64pow10", Rows.laid_internal_strconv_uint64pow10) ∈ laid) (h3 : ("pigeonhole/code.shapes", Rows.laid_pigeonhole_code_shapes) ∈ laid) (h4 : ("pigeonhole/lint.builtin", Rows.laid_pigeonhole_lint_builtin) ∈ laid)
  (hsh : W.ShapedOpen Tryz.prog) : ∃ m, ∀ g, VR (entryK W) (GvC m g) (.pointer (some ⟨g, 0, none⟩)) := by
 have g0 : VR (entryK W) (.rp (words.map AV.str)) (.pointer (some ⟨1, 0, none⟩)) :=
  laid_glob closedSC hL (n := "pigeonhole/term.words") h1 (g := 1) (t := 242) (by kernel_rfl) (by kernel_rfl) (by decide) (by kernel_rfl)
 have g1 : VR (entryK W) (.tab powV) (.pointer (some ⟨4, 0, none⟩)) :=
  laid_tab closedSC hL (n := "internal/strconv.uint64pow10") h2 (g := 4) (t := 282) (k := .u64) (zs := Lib.pow10Tab) (by kernel_rfl) (by kernel_rfl) (by decide) (by kernel_rfl)
 have g2 : VR (entryK W) (.rp shpCells) (.pointer (some ⟨0, 0, none⟩)) :=
  laid_glob closedSC hL (n := "pigeonhole/code.shapes") h3 (g := 0) (t := 112) (by kernel_rfl) (by kernel_rfl) (by decide) shapes_av
 have g3 : VR (entryK W) (.rp builtinCells) (.pointer (some ⟨3, 0, none⟩)) :=
  laid_glob closedSC hL (n := "pigeonhole/lint.builtin") h4 (g := 3) (t := 258) (by kernel_rfl) (by kernel_rfl) (by decide) builtin_av
 have g4 : ∃ m, W.cell? ⟨2, 0, none⟩ = some (.int .i64 m) :=
  Go.Proofs.cell_of_shapedOpen_int (zero := #[.int .i64 0]) (t := 3) hsh (of_decide_eq_true (by kernel_rfl)) (by kernel_rfl) rfl (by kernel_rfl) (by kernel_rfl) Tryz.underlying3
 obtain ⟨m, g4⟩ := int_globC g4
 refine ⟨m, fun g => ?_⟩
 unfold GvC
 by_cases e0 : g = 1
 ·subst e0; exact g0
 by_cases e1 : g = 4
 ·subst e1; exact g1
 by_cases e2 : g = 0
 ·subst e2; exact g2
 by_cases e3 : g = 3
 ·subst e3; exact g3
 by_cases e4 : g = 2
 ·subst e4; exact g4
 rw [if_neg e0, if_neg e1, if_neg e2, if_neg e3, if_neg e4]; exact .raw _
end
end Go.Proofs.YtjmdaeabllkgnaaGreatDoor
