/- Code: the document's Right: walked. -/
import Derived.Test.YtjmdaeabllkgnaaGreatDoorY46
import Derived.Test.YtjmdaeabllkgnaaGreatDoorY31
set_option linter.unusedVariables false
set_option linter.unusedSimpArgs false
set_option maxRecDepth 20000
set_option linter.defProp false
namespace Go.Proofs.YtjmdaeabllkgnaaGreatDoor
open Go Go.Av
def tbRCodF := And.intro (And.intro (And.intro (And.intro (And.intro @tf3 @tf4) (And.intro @tf5 @tf9)) (And.intro (And.intro @tf124 @tf37) (And.intro @tf39 (And.intro @tf23 @tf30)))) (And.intro (And.intro (And.intro @tf53 @tf22) (And.intro @tf26 @tf24)) (And.intro (And.intro @tf58 @isv_rowOf) (And.intro @flat_rowOf (And.intro @len_rowOf @ix_rowOf))))) (And.intro (And.intro (And.intro (And.intro @isv_encs @flat_encs) (And.intro @len_encs @ix_encs)) (And.intro (And.intro @Ins.flat_enc @Ins.isv_enc) (And.intro @Ins.fold_enc (And.intro @Ent.flat_enc @Ent.isv_enc)))) (And.intro (And.intro (And.intro @Ent.fold_enc @Cod.flat_enc) (And.intro @Cod.isv_enc @Cod.fold_enc)) (And.intro (And.intro @Term.flat_enc @Term.isv_enc) (And.intro @Term.fold_enc (And.intro @ares_tmpc @ares_cellc)))))
variable {G : Nat -> AV}
structure RA (G : Nat -> AV) (es : List Ent) (is : List Ins) (cs : List Term) : Prop where
 rt : ∀ t, t ∈ cs -> Pure Tryz.prog G 50 [t.enc] (.bool (right t))
 ri : ∀ (e : Ent) (i : Ins) (z : Int), i ∈ is -> Pure Tryz.prog G 51 [.agg [rowOf Ent.enc es, rowOf Ins.enc is, encs cs], i.enc, .int .i64 e.pos, .int .i64 z, .int .i64 e.slots] (.bool (insRight ⟨es, is, cs⟩ e e.pos z i))
structure HdF (p : Prop) : Prop where
 out : p
theorem entsOK_cons {c : Cod} {b z : Int} {e : Ent} {r : List Ent} (hz : endOf c r = z) : entsOK c b (e :: r) = (entOK c b z e && ((within c b z).all (insRight c e b z) && entsOK c z r)) := by subst hz; rfl
theorem within_get {c : Cod} {b z : Int} {p : Nat} {i : Ins} (h0 : 0 <= b) (h1 : b <= p) (h2 : (p : Int) < z) (hi : c.instrs[p]? = some i) : i ∈ within c b z := by
 unfold within
 refine List.mem_of_getElem? (i := p - b.toNat) ?_
 rw [List.getElem?_drop, List.getElem?_take_of_lt (by omega), show b.toNat + (p - b.toNat) = p by omega]
 exact hi
theorem within_all {c : Cod} {b z : Int} {f : Ins -> Bool} (h0 : 0 <= b) (h : ∀ (p : Nat) (i : Ins), b <= p -> (p : Int) < z -> c.instrs[p]? = some i -> f i = true) : (within c b z).all f = true := by
 refine List.all_eq_true.2 fun i hi => ?_
 obtain ⟨j, hj⟩ := List.getElem?_of_mem hi
 unfold within at hj
 rw [List.getElem?_drop, List.getElem?_take] at hj
 split at hj
 ·rename_i hlt
  exact h (b.toNat + j) i (by omega) (by omega) hj
 ·cases hj
set_option maxHeartbeats 4000000 in
theorem rRight_none {cs : List Term} (H : RA G [] [] cs) (l3 : cs.length <= 16384) : Pure Tryz.prog G 13 [.agg [rowOf Ent.enc [], rowOf Ins.enc [], encs cs]] (.bool (cs.all right)) := by
 have c3 : ((16384 : Int) < cs.length) = False := eq_false (by omega)
 intro σ
 refine Tri.of_awp mixed Tryz.func13 rfl (by kernel_rfl) (by kernel_rfl) (by simp [Tryz.ntmps13]) Tryz.results13 ?_
 repeat' (first | refine xs ?_ ?_ <;> intros | (refine wn ?_; intro bx hbx; try simp only [fb] at hbx) | refine wj ?_ | simp -dsimp only [↓bp, bq, br, seval, tbRCodF, List.length_nil, *] | refine wz ?_ | fail)
 refine loop_keep mixed (fun n e => ∃ j : Nat, j <= cs.length /\ n = cs.length - j /\ e 3 = .int .i64 j /\ (cs.take j).all right = true) cs.length
  ⟨0, by omega, by omega, by first | (simp -dsimp only [↓bp, bq, br, seval, tbRCodF]; done) | (simp -dsimp only [↓bp, bq, br, seval, tbRCodF]; try rfl), by simp⟩ ?_
 rintro n v0 ⟨j, hj, rfl, h3, hA⟩
 simp -dsimp only [↓bp, bq, br, seval, tbRCodF] at h3
 by_cases hlt : j < cs.length
 ·have hlt' : ((j : Int) < cs.length) = True := eq_true (by omega)
  obtain ⟨t, ht⟩ : ∃ t, cs[j]? = some t := ⟨_, List.getElem?_eq_getElem hlt⟩
  have htm := List.mem_of_getElem? ht
  have hp := H.rt t htm
  have hwj : IntKind.i64.wrap ((j : Int) + 1) = ((j + 1 : Nat) : Int) := by rw [wrap_nat (by omega) (by omega)]; rfl
  cases hr : right t with
  | false =>
   rw [hr] at hp
   have hf : cs.all right = false := List.all_eq_false.2 ⟨t, htm, by simp [hr]⟩
   simp only [hf, Bool.false_and]
   clear hf hA hr H htm hlt hj
   repeat' (first | refine xs ?_ ?_ <;> intros | (refine wn ?_; intro bx hbx; try simp only [fb] at hbx) | refine wp hp ?_ | refine wj ?_ | simp -dsimp only [↓bp, bq, br, seval, tbRCodF, *] | refine wz ?_ | fail)
   all_goals rfl
  | true =>
   rw [hr] at hp
   have hA2 : (cs.take (j + 1)).all right = true := by rw [take_succ_get _ _ _ ht, List.all_append, hA]; simp [hr]
   clear hA hr H htm
   repeat' (first | refine xs ?_ ?_ <;> intros | (refine wn ?_; intro bx hbx; try simp only [fb] at hbx) | refine wp hp ?_ | refine wj ?_ | simp -dsimp only [↓bp, bq, br, seval, tbRCodF, *] | refine wz ?_ | fail)
   all_goals exact ⟨cs.length - (j + 1), by omega, j + 1, by omega, rfl, rfl, hA2⟩
 ·have : j = cs.length := by omega
  subst this
  have hlt' : ((cs.length : Int) < cs.length) = False := eq_false (by omega)
  rw [List.take_length] at hA
  simp only [hA]
  clear H hA hlt hj
  repeat' (first | refine xs ?_ ?_ <;> intros | (refine wn ?_; intro bx hbx; try simp only [fb] at hbx) | refine wj ?_ | simp -dsimp only [↓bp, bq, br, seval, tbRCodF, List.length_nil, *] | refine wz ?_ | fail)
  refine loop_keep mixed (fun n e => n = 0 /\ e 4 = .int .i64 0) 0 ⟨rfl, by first | (simp -dsimp only [↓bp, bq, br, seval, tbRCodF]; done) | (simp -dsimp only [↓bp, bq, br, seval, tbRCodF]; try rfl)⟩ ?_
  rintro n v1 ⟨rfl, h4⟩
  simp -dsimp only [↓bp, bq, br, seval, tbRCodF] at h4
  repeat' (first | refine xs ?_ ?_ <;> intros | (refine wn ?_; intro bx hbx; try simp only [fb] at hbx) | refine wj ?_ | simp -dsimp only [↓bp, bq, br, seval, tbRCodF, List.length_nil, *] | refine wz ?_ | fail)
  all_goals rfl
set_option maxHeartbeats 16000000 in
theorem rRight_some {es : List Ent} {is : List Ins} {cs : List Term} (H : RA G es is cs) (l1 : es.length <= 16384) (l2 : is.length <= 16384) (l3 : cs.length <= 16384) (hne : ¬ es.length = 0) : Pure Tryz.prog G 13 [.agg [rowOf Ent.enc es, rowOf Ins.enc is, encs cs]] (.bool (cs.all right && entsOK ⟨es, is, cs⟩ 0 es)) := by
 have c1 : ((16384 : Int) < es.length) = False := eq_false (by omega)
 have c2 : ((16384 : Int) < is.length) = False := eq_false (by omega)
 have c3 : ((16384 : Int) < cs.length) = False := eq_false (by omega)
 have c4 : ((es.length : Int) = 0) = False := eq_false (by omega)
 intro σ
 refine Tri.of_awp mixed Tryz.func13 rfl (by kernel_rfl) (by kernel_rfl) (by simp [Tryz.ntmps13]) Tryz.results13 ?_
 simp -dsimp only [↓bp, bq, br, seval, tbRCodF]
 refine newW_intro ?_
 intro bc hbc
 obtain ⟨S, hS⟩ : ∃ S : AS, S = σ.setBox bc [rowOf Ent.enc es, rowOf Ins.enc is, encs cs] := ⟨_, rfl⟩
 have hSb : S.box bc = some [rowOf Ent.enc es, rowOf Ins.enc is, encs cs] := by rw [hS]; exact AS.set_get
 have hSl : σ.le S := by rw [hS]; exact (AS.le.refl σ).setBox hbc.1 _
 rw [<- hS]
 clear hS hbc hne
 repeat' (first | refine xs ?_ ?_ <;> intros | (refine wn ?_; intro bx hbx; try simp only [fb] at hbx) | refine wj ?_ | simp -dsimp only [↓bp, bq, br, seval, tbRCodF, *] | refine wz ?_ | fail)
 clear c1 c2 c3 c4
 refine loop_keep mixed (fun n e => ∃ j : Nat, j <= cs.length /\ n = cs.length - j /\ e 3 = .int .i64 j /\ (cs.take j).all right = true) cs.length
  ⟨0, by omega, by omega, by first | (simp -dsimp only [↓bp, bq, br, seval, tbRCodF]; done) | (simp -dsimp only [↓bp, bq, br, seval, tbRCodF]; try rfl), by simp⟩ ?_
 rintro n v0 ⟨j, hj, rfl, h3, hA⟩
 simp -dsimp only [↓bp, bq, br, seval, tbRCodF] at h3
 by_cases hlt : j < cs.length
 ·have hlt' : ((j : Int) < cs.length) = True := eq_true (by omega)
  obtain ⟨t, ht⟩ : ∃ t, cs[j]? = some t := ⟨_, List.getElem?_eq_getElem hlt⟩
  have htm := List.mem_of_getElem? ht
  have hp := H.rt t htm
  have hwj : IntKind.i64.wrap ((j : Int) + 1) = ((j + 1 : Nat) : Int) := by rw [wrap_nat (by omega) (by omega)]; rfl
  cases hr : right t with
  | false =>
   rw [hr] at hp
   have hf : cs.all right = false := List.all_eq_false.2 ⟨t, htm, by simp [hr]⟩
   simp only [hf, Bool.false_and]
   clear hf hA hr H htm hlt hj
   repeat' (first | refine xs ?_ ?_ <;> intros | (refine wn ?_; intro bx hbx; try simp only [fb] at hbx) | refine wp hp ?_ | refine wj ?_ | simp -dsimp only [↓bp, bq, br, seval, tbRCodF, *] | refine wz ?_ | fail)
   all_goals rfl
  | true =>
   rw [hr] at hp
   have hA2 : (cs.take (j + 1)).all right = true := by rw [take_succ_get _ _ _ ht, List.all_append, hA]; simp [hr]
   clear hA hr H htm
   repeat' (first | refine xs ?_ ?_ <;> intros | (refine wn ?_; intro bx hbx; try simp only [fb] at hbx) | refine wp hp ?_ | refine wj ?_ | simp -dsimp only [↓bp, bq, br, seval, tbRCodF, *] | refine wz ?_ | fail)
   all_goals exact ⟨cs.length - (j + 1), by omega, j + 1, by omega, rfl, rfl, hA2⟩
 ·have : j = cs.length := by omega
  subst this
  have hlt' : ((cs.length : Int) < cs.length) = False := eq_false (by omega)
  rw [List.take_length] at hA
  simp only [hA, Bool.true_and]
  clear hA hlt hj
  repeat' (first | refine xs ?_ ?_ <;> intros | (refine wn ?_; intro bx hbx; try simp only [fb] at hbx) | refine wj ?_ | simp -dsimp only [↓bp, bq, br, seval, tbRCodF, *] | refine wz ?_ | fail)
  clear hlt' h3
  refine loop_intro (fun n e σ' => ∃ k : Nat, k <= es.length /\ n = es.length - k /\ e 4 = .int .i64 k /\ S.le σ' /\ (0 < k -> 0 <= endOf ⟨es, is, cs⟩ (es.drop k)) /\ entsOK ⟨es, is, cs⟩ 0 es = entsOK ⟨es, is, cs⟩ (if k = 0 then 0 else endOf ⟨es, is, cs⟩ (es.drop k)) (es.drop k)) es.length
   ⟨0, by omega, by omega, by first | (simp -dsimp only [↓bp, bq, br, seval, tbRCodF]; done) | (simp -dsimp only [↓bp, bq, br, seval, tbRCodF]; try rfl), AS.le.refl S, fun h => by omega, rfl⟩ ?_
  rintro n v1 σ0 ⟨k, hk, rfl, h4, hL, hb0, hE⟩
  simp -dsimp only [↓bp, bq, br, seval, tbRCodF] at h4
  have hbx0 := hL.box _ _ hSb
  have hl2 := hSl.trans hL
  by_cases hlt : k < es.length
  case neg =>
   have : k = es.length := by omega
   subst this
   have hlt' : ((es.length : Int) < es.length) = False := eq_false (by omega)
   rw [List.drop_length] at hE
   rw [hE]
   simp only [entsOK]
   clear hE hb0 H
   repeat' (first | refine xs ?_ ?_ <;> intros | (refine wn ?_; intro bx hbx; try simp only [fb] at hbx) | refine wj ?_ | simp -dsimp only [↓bp, bq, br, seval, tbRCodF, *] | refine wz ?_ | fail)
   all_goals rfl
  have hlt' : ((k : Int) < es.length) = True := eq_true (by omega)
  obtain ⟨e, he⟩ : ∃ e, es[k]? = some e := ⟨_, List.getElem?_eq_getElem hlt⟩
  have hwk : IntKind.i64.wrap ((k : Int) + 1) = ((k + 1 : Nat) : Int) := by rw [wrap_nat (by omega) (by omega)]; rfl
  obtain ⟨z, hz⟩ : ∃ z, endOf ⟨es, is, cs⟩ (es.drop (k + 1)) = z := ⟨_, rfl⟩
  obtain ⟨b, hb⟩ : ∃ b : Int, (if k = 0 then 0 else endOf ⟨es, is, cs⟩ (es.drop k)) = b := ⟨_, rfl⟩
  rw [hb, drop_get _ _ _ he, entsOK_cons hz] at hE
  rw [hE]
  have hbe : (k = 0 /\ b = 0) \/ (0 < k /\ b = e.pos /\ 0 <= b) := by
   by_cases h0 : k = 0
   ·rw [if_pos h0] at hb; exact .inl ⟨h0, hb.symm⟩
   ·rw [if_neg h0, drop_get _ _ _ he] at hb
    have := hb0 (by omega)
    rw [drop_get _ _ _ he] at this
    have e1 : endOf ⟨es, is, cs⟩ (e :: es.drop (k + 1)) = e.pos := rfl
    rw [e1] at hb this
    exact .inr ⟨by omega, hb.symm, by omega⟩
  clear hb0 hSb
  repeat' (first | (refine wn ?_; intro bx hbx; try simp only [fb] at hbx) | refine wj ?_ | simp -dsimp only [↓bp, bq, br, seval, tbRCodF, *] | refine wz ?_ | fail)
  have nbc : (bc = bx) = False := eq_false (fun e => by have := hbx.1; rw [<- e, hbx0] at this; cases this)
  obtain ⟨S1, hS1⟩ : ∃ S1 : AS, S1 = σ0.setBox bx [.str e.name, .int .i64 e.arity, .int .i64 e.extra, .int .i64 e.slots, .int .i64 e.pos] := ⟨_, rfl⟩
  have f1 : S1.box bx = some [.str e.name, .int .i64 e.arity, .int .i64 e.extra, .int .i64 e.slots, .int .i64 e.pos] := by rw [hS1]; exact AS.set_get
  have hl01 : σ0.le S1 := by rw [hS1]; exact (AS.le.refl σ0).setBox hbx.1 _
  have f0 := hl01.box _ _ hbx0
  have l1' : σ.le S1 := hl2.trans hl01
  have l2' : S.le S1 := hL.trans hl01
  rw [<- hS1]
  clear hS1 hbx hbx0 hl2 hL hl01
  repeat' (first | (refine wn ?_; intro bx hbx; try simp only [fb] at hbx) | refine wj ?_ | simp -dsimp only [↓bp, bq, br, seval, tbRCodF, *] | refine wz ?_ | fail)
  clear nbc
  refine cond_meet mixed (fun v s => v 6 = .int .i64 z /\ S1 = s) ?_ ?_
  ·by_cases h2 : k + 1 < es.length
   ·have h2' : (((k + 1 : Nat) : Int) < es.length) = True := eq_true (by omega)
    obtain ⟨e2, he2⟩ : ∃ e2, es[k + 1]? = some e2 := ⟨_, List.getElem?_eq_getElem h2⟩
    have hz2 : e2.pos = z := by rw [<- hz, drop_get _ _ _ he2]; rfl
    clear hz hE hb hbe H h2 hk
    repeat' (first | (refine wn ?_; intro bx hbx; try simp only [fb] at hbx) | refine wj ?_ | simp -dsimp only [↓bp, bq, br, seval, tbRCodF, *] | refine wz ?_ | fail)
    all_goals first | exact ⟨by rw [hz2], rfl⟩ | rfl | exact hz2
   ·have h2' : (((k + 1 : Nat) : Int) < es.length) = False := eq_false (by omega)
    have hz2 : (is.length : Int) = z := by rw [<- hz, List.drop_eq_nil_of_le (by omega)]; rfl
    clear hz hE hb hbe H h2 hk
    repeat' (first | (refine wn ?_; intro bx hbx; try simp only [fb] at hbx) | refine wj ?_ | simp -dsimp only [↓bp, bq, br, seval, tbRCodF, *] | refine wz ?_ | fail)
    all_goals first | exact ⟨by rw [hz2], rfl⟩ | rfl | exact hz2
  rintro v2 s2 ⟨h6, rfl⟩
  simp -dsimp only [↓bp, bq, br, seval, tbRCodF] at h6
  rcases hbe with ⟨h0, hb1⟩ | ⟨h0, hb1, hb2⟩
  ·have g0 : ((k : Int) = 0) = True := eq_true (by omega)
   clear h0
   by_cases g1 : e.pos = 0
   ·have g1' := eq_true g1
    by_cases q1 : z <= 0
    ·have q1' := eq_true q1
     have hf : entOK ⟨es, is, cs⟩ b z e = false := by
      cases hh : entOK ⟨es, is, cs⟩ b z e with
      | false => rfl
      | true =>
       exfalso
       simp only [entOK, Bool.and_eq_true, decide_eq_true_eq] at hh
       omega
     simp only [hf, Bool.false_and]
     clear hf H hb hE
     repeat' (first | refine xs ?_ ?_ <;> intros | (refine wn ?_; intro bx hbx; try simp only [fb] at hbx) | refine wj ?_ | simp -dsimp only [↓bp, bq, br, seval, tbRCodF, *] | refine wz ?_ | fail)
     all_goals rfl
    have q1' := eq_false q1
    by_cases q2 : (is.length : Int) < z
    ·have q2' := eq_true q2
     have hf : entOK ⟨es, is, cs⟩ b z e = false := by
      cases hh : entOK ⟨es, is, cs⟩ b z e with
      | false => rfl
      | true =>
       exfalso
       simp only [entOK, Bool.and_eq_true, decide_eq_true_eq] at hh
       omega
     simp only [hf, Bool.false_and]
     clear hf H hb hE
     repeat' (first | refine xs ?_ ?_ <;> intros | (refine wn ?_; intro bx hbx; try simp only [fb] at hbx) | refine wj ?_ | simp -dsimp only [↓bp, bq, br, seval, tbRCodF, *] | refine wz ?_ | fail)
     all_goals rfl
    have q2' := eq_false q2
    by_cases q3 : (40 : Int) < (e.name.length : Int)
    ·have q3' := eq_true q3
     have hf : entOK ⟨es, is, cs⟩ b z e = false := by
      cases hh : entOK ⟨es, is, cs⟩ b z e with
      | false => rfl
      | true =>
       exfalso
       simp only [entOK, Bool.and_eq_true, decide_eq_true_eq] at hh
       omega
     simp only [hf, Bool.false_and]
     clear hf H hb hE
     repeat' (first | refine xs ?_ ?_ <;> intros | (refine wn ?_; intro bx hbx; try simp only [fb] at hbx) | refine wj ?_ | simp -dsimp only [↓bp, bq, br, seval, tbRCodF, *] | refine wz ?_ | fail)
     all_goals rfl
    have q3' := eq_false q3
    by_cases q4 : e.extra < 0
    ·have q4' := eq_true q4
     have hf : entOK ⟨es, is, cs⟩ b z e = false := by
      cases hh : entOK ⟨es, is, cs⟩ b z e with
      | false => rfl
      | true =>
       exfalso
       simp only [entOK, Bool.and_eq_true, decide_eq_true_eq] at hh
       omega
     simp only [hf, Bool.false_and]
     clear hf H hb hE
     repeat' (first | refine xs ?_ ?_ <;> intros | (refine wn ?_; intro bx hbx; try simp only [fb] at hbx) | refine wj ?_ | simp -dsimp only [↓bp, bq, br, seval, tbRCodF, *] | refine wz ?_ | fail)
     all_goals rfl
    have q4' := eq_false q4
    by_cases q5 : e.arity < e.extra
    ·have q5' := eq_true q5
     have hf : entOK ⟨es, is, cs⟩ b z e = false := by
      cases hh : entOK ⟨es, is, cs⟩ b z e with
      | false => rfl
      | true =>
       exfalso
       simp only [entOK, Bool.and_eq_true, decide_eq_true_eq] at hh
       omega
     simp only [hf, Bool.false_and]
     clear hf H hb hE
     repeat' (first | refine xs ?_ ?_ <;> intros | (refine wn ?_; intro bx hbx; try simp only [fb] at hbx) | refine wj ?_ | simp -dsimp only [↓bp, bq, br, seval, tbRCodF, *] | refine wz ?_ | fail)
     all_goals rfl
    have q5' := eq_false q5
    by_cases q6 : 12 < e.arity
    ·have q6' := eq_true q6
     have hf : entOK ⟨es, is, cs⟩ b z e = false := by
      cases hh : entOK ⟨es, is, cs⟩ b z e with
      | false => rfl
      | true =>
       exfalso
       simp only [entOK, Bool.and_eq_true, decide_eq_true_eq] at hh
       omega
     simp only [hf, Bool.false_and]
     clear hf H hb hE
     repeat' (first | refine xs ?_ ?_ <;> intros | (refine wn ?_; intro bx hbx; try simp only [fb] at hbx) | refine wj ?_ | simp -dsimp only [↓bp, bq, br, seval, tbRCodF, *] | refine wz ?_ | fail)
     all_goals rfl
    have q6' := eq_false q6
    by_cases q7 : e.slots < e.arity
    ·have q7' := eq_true q7
     have hf : entOK ⟨es, is, cs⟩ b z e = false := by
      cases hh : entOK ⟨es, is, cs⟩ b z e with
      | false => rfl
      | true =>
       exfalso
       simp only [entOK, Bool.and_eq_true, decide_eq_true_eq] at hh
       omega
     simp only [hf, Bool.false_and]
     clear hf H hb hE
     repeat' (first | refine xs ?_ ?_ <;> intros | (refine wn ?_; intro bx hbx; try simp only [fb] at hbx) | refine wj ?_ | simp -dsimp only [↓bp, bq, br, seval, tbRCodF, *] | refine wz ?_ | fail)
     all_goals rfl
    have q7' := eq_false q7
    by_cases q8 : 1000 < e.slots
    ·have q8' := eq_true q8
     have hf : entOK ⟨es, is, cs⟩ b z e = false := by
      cases hh : entOK ⟨es, is, cs⟩ b z e with
      | false => rfl
      | true =>
       exfalso
       simp only [entOK, Bool.and_eq_true, decide_eq_true_eq] at hh
       omega
     simp only [hf, Bool.false_and]
     clear hf H hb hE
     repeat' (first | refine xs ?_ ?_ <;> intros | (refine wn ?_; intro bx hbx; try simp only [fb] at hbx) | refine wj ?_ | simp -dsimp only [↓bp, bq, br, seval, tbRCodF, *] | refine wz ?_ | fail)
     all_goals rfl
    have q8' := eq_false q8
    have ht : entOK ⟨es, is, cs⟩ b z e = true := by
     simp only [entOK, Bool.and_eq_true, decide_eq_true_eq]
     omega
    simp only [ht, Bool.true_and]
    clear ht
    have hb0 : 0 <= b := by omega
    repeat' (first | refine xs ?_ ?_ <;> intros | (refine wn ?_; intro bx hbx; try simp only [fb] at hbx) | refine wj ?_ | simp -dsimp only [↓bp, bq, br, seval, tbRCodF, *] | refine wz ?_ | fail)
    obtain ⟨P, hP⟩ : ∃ P : Nat, HdF (b = (P : Int)) := by
     obtain ⟨P, h⟩ := Int.eq_ofNat_of_zero_le hb0
     exact ⟨P, ⟨h⟩⟩
    obtain ⟨Z, hZ⟩ : ∃ Z : Nat, HdF (z = (Z : Int)) := by
     obtain ⟨P, h⟩ := Int.eq_ofNat_of_zero_le (a := z) (by omega)
     exact ⟨P, ⟨h⟩⟩
    have hPZ : P < Z := by have h1 := hP.out; have h2 := hZ.out; omega
    have hZl : Z <= is.length := by have h1 := hP.out; have h2 := hZ.out; omega
    have hpb : HdF (e.pos = (P : Int)) := ⟨by have h1 := hP.out; have h2 := hZ.out; omega⟩
    have hb' : HdF (b = e.pos) := ⟨by have h1 := hP.out; have h2 := hZ.out; omega⟩
    refine loop_keep mixed (fun n v => ∃ p : Nat, P <= p /\ p <= Z /\ n = Z - p /\ v 7 = .int .i64 p /\ (∀ (q : Nat) (i : Ins), P <= q -> q < p -> is[q]? = some i -> insRight ⟨es, is, cs⟩ e e.pos z i = true)) (Z - P)
     ⟨P, by omega, by omega, by omega, by first | (simp -dsimp only [↓bp, bq, br, seval, tbRCodF]; done) | (have h1 := hpb.out; simp -dsimp only [↓bp, bq, br, seval, tbRCodF]; exact congrArg (AV.int .i64) (by omega)), fun q i h1 h2 => by omega⟩ ?_
    rintro n v3 ⟨p, hp1, hp2, rfl, h7, hR⟩
    simp -dsimp only [↓bp, bq, br, seval, tbRCodF] at h7
    try clear g1 g1'
    have hs : z = (Z : Int) := hZ.out
    by_cases hlp : p < Z
    ·have hlp' : ((p : Int) < z) = True := eq_true (by omega)
     obtain ⟨i, hi⟩ : ∃ i, is[p]? = some i := ⟨_, List.getElem?_eq_getElem (by omega)⟩
     have hq := H.ri e i z (List.mem_of_getElem? hi)
     have hwp : IntKind.i64.wrap ((p : Int) + 1) = ((p + 1 : Nat) : Int) := by rw [wrap_nat (by omega) (by omega)]; rfl
     cases hr : insRight ⟨es, is, cs⟩ e e.pos z i with
     | false =>
      rw [hr] at hq
      have hf : (within ⟨es, is, cs⟩ b z).all (insRight ⟨es, is, cs⟩ e b z) = false := List.all_eq_false.2 ⟨i, within_get hb0 (by have := hP.out; omega) (by omega) hi, by rw [hb'.out, hr]; simp⟩
      simp only [hf, Bool.false_and]
      clear hf hr hR H hb hE hs hpb hb' hP hZ
      repeat' (first | refine xs ?_ ?_ <;> intros | (refine wn ?_; intro bx hbx; try simp only [fb] at hbx) | refine wp hq ?_ | refine wj ?_ | simp -dsimp only [↓bp, bq, br, seval, tbRCodF, *] | refine wz ?_ | fail)
      all_goals rfl
     | true =>
      rw [hr] at hq
      have hR2 : ∀ (q : Nat) (j : Ins), P <= q -> q < p + 1 -> is[q]? = some j -> insRight ⟨es, is, cs⟩ e e.pos z j = true := fun q j h1 h2 h3 => by
       by_cases hqp : q = p
       ·subst hqp; rw [hi] at h3; cases h3; exact hr
       ·exact hR q j h1 (by omega) h3
      clear hr hR H hb hE hs
      repeat' (first | refine xs ?_ ?_ <;> intros | (refine wn ?_; intro bx hbx; try simp only [fb] at hbx) | refine wp hq ?_ | refine wj ?_ | simp -dsimp only [↓bp, bq, br, seval, tbRCodF, *] | refine wz ?_ | fail)
      all_goals exact ⟨Z - (p + 1), by omega, p + 1, by omega, by omega, rfl, rfl, hR2⟩
    ·have : p = Z := by omega
     subst this
     have hlp' : ((p : Int) < z) = False := eq_false (by omega)
     have ha : (within ⟨es, is, cs⟩ b z).all (insRight ⟨es, is, cs⟩ e b z) = true := within_all hb0 fun q j h1 h2 h3 => by rw [hb'.out]; exact hR q j (by have := hP.out; omega) (by omega) h3
     simp only [ha, Bool.true_and]
     have hEz : entsOK ⟨es, is, cs⟩ z (es.drop (k + 1)) = entsOK ⟨es, is, cs⟩ (if k + 1 = 0 then 0 else endOf ⟨es, is, cs⟩ (es.drop (k + 1))) (es.drop (k + 1)) := by rw [if_neg (by omega), hz]
     have hz0 : 0 < k + 1 -> 0 <= endOf ⟨es, is, cs⟩ (es.drop (k + 1)) := fun _ => by rw [hz]; omega
     have hfin : ∃ m, m < es.length - k /\ ∃ k' : Nat, k' <= es.length /\ m = es.length - k' /\ AV.int .i64 ((k + 1 : Nat) : Int) = AV.int .i64 (k' : Int) /\ S.le S1 /\ (0 < k' -> 0 <= endOf ⟨es, is, cs⟩ (es.drop k')) /\ entsOK ⟨es, is, cs⟩ z (es.drop (k + 1)) = entsOK ⟨es, is, cs⟩ (if k' = 0 then 0 else endOf ⟨es, is, cs⟩ (es.drop k')) (es.drop k') := ⟨es.length - (k + 1), by omega, k + 1, by omega, rfl, rfl, l2', hz0, hEz⟩
     clear ha hR H hb hE hz hs hpb hb' hP hZ hz0 hEz
     have hfin := HdF.mk hfin
     repeat' (first | refine xs ?_ ?_ <;> intros | (refine wn ?_; intro bx hbx; try simp only [fb] at hbx) | refine wj ?_ | simp -dsimp only [↓bp, bq, br, seval, tbRCodF, *] | refine wz ?_ | fail)
     all_goals first | exact hfin.out | simpa [l2'] using hfin.out
   ·have g1' := eq_false g1
    have hf : entOK ⟨es, is, cs⟩ b z e = false := by
     cases hh : entOK ⟨es, is, cs⟩ b z e with
     | false => rfl
     | true =>
      exfalso
      simp only [entOK, Bool.and_eq_true, decide_eq_true_eq] at hh
      omega
    simp only [hf, Bool.false_and]
    clear hf H hb hE
    repeat' (first | refine xs ?_ ?_ <;> intros | (refine wn ?_; intro bx hbx; try simp only [fb] at hbx) | refine wj ?_ | simp -dsimp only [↓bp, bq, br, seval, tbRCodF, *] | refine wz ?_ | fail)
    all_goals rfl
  ·have g0 : ((k : Int) = 0) = False := eq_false (by omega)
   clear h0
   by_cases q0 : e.pos < 0
   ·have q0' := eq_true q0
    have hf : entOK ⟨es, is, cs⟩ b z e = false := by
     cases hh : entOK ⟨es, is, cs⟩ b z e with
     | false => rfl
     | true =>
      exfalso
      simp only [entOK, Bool.and_eq_true, decide_eq_true_eq] at hh
      omega
    simp only [hf, Bool.false_and]
    clear hf H hb hE
    repeat' (first | refine xs ?_ ?_ <;> intros | (refine wn ?_; intro bx hbx; try simp only [fb] at hbx) | refine wj ?_ | simp -dsimp only [↓bp, bq, br, seval, tbRCodF, *] | refine wz ?_ | fail)
    all_goals rfl
   have q0' := eq_false q0
   by_cases q1 : z <= e.pos
   ·have q1' := eq_true q1
    have hf : entOK ⟨es, is, cs⟩ b z e = false := by
     cases hh : entOK ⟨es, is, cs⟩ b z e with
     | false => rfl
     | true =>
      exfalso
      simp only [entOK, Bool.and_eq_true, decide_eq_true_eq] at hh
      omega
    simp only [hf, Bool.false_and]
    clear hf H hb hE
    repeat' (first | refine xs ?_ ?_ <;> intros | (refine wn ?_; intro bx hbx; try simp only [fb] at hbx) | refine wj ?_ | simp -dsimp only [↓bp, bq, br, seval, tbRCodF, *] | refine wz ?_ | fail)
    all_goals rfl
   have q1' := eq_false q1
   by_cases q2 : (is.length : Int) < z
   ·have q2' := eq_true q2
    have hf : entOK ⟨es, is, cs⟩ b z e = false := by
     cases hh : entOK ⟨es, is, cs⟩ b z e with
     | false => rfl
     | true =>
      exfalso
      simp only [entOK, Bool.and_eq_true, decide_eq_true_eq] at hh
      omega
    simp only [hf, Bool.false_and]
    clear hf H hb hE
    repeat' (first | refine xs ?_ ?_ <;> intros | (refine wn ?_; intro bx hbx; try simp only [fb] at hbx) | refine wj ?_ | simp -dsimp only [↓bp, bq, br, seval, tbRCodF, *] | refine wz ?_ | fail)
    all_goals rfl
   have q2' := eq_false q2
   by_cases q3 : (40 : Int) < (e.name.length : Int)
   ·have q3' := eq_true q3
    have hf : entOK ⟨es, is, cs⟩ b z e = false := by
     cases hh : entOK ⟨es, is, cs⟩ b z e with
     | false => rfl
     | true =>
      exfalso
      simp only [entOK, Bool.and_eq_true, decide_eq_true_eq] at hh
      omega
    simp only [hf, Bool.false_and]
    clear hf H hb hE
    repeat' (first | refine xs ?_ ?_ <;> intros | (refine wn ?_; intro bx hbx; try simp only [fb] at hbx) | refine wj ?_ | simp -dsimp only [↓bp, bq, br, seval, tbRCodF, *] | refine wz ?_ | fail)
    all_goals rfl
   have q3' := eq_false q3
   by_cases q4 : e.extra < 0
   ·have q4' := eq_true q4
    have hf : entOK ⟨es, is, cs⟩ b z e = false := by
     cases hh : entOK ⟨es, is, cs⟩ b z e with
     | false => rfl
     | true =>
      exfalso
      simp only [entOK, Bool.and_eq_true, decide_eq_true_eq] at hh
      omega
    simp only [hf, Bool.false_and]
    clear hf H hb hE
    repeat' (first | refine xs ?_ ?_ <;> intros | (refine wn ?_; intro bx hbx; try simp only [fb] at hbx) | refine wj ?_ | simp -dsimp only [↓bp, bq, br, seval, tbRCodF, *] | refine wz ?_ | fail)
    all_goals rfl
   have q4' := eq_false q4
   by_cases q5 : e.arity < e.extra
   ·have q5' := eq_true q5
    have hf : entOK ⟨es, is, cs⟩ b z e = false := by
     cases hh : entOK ⟨es, is, cs⟩ b z e with
     | false => rfl
     | true =>
      exfalso
      simp only [entOK, Bool.and_eq_true, decide_eq_true_eq] at hh
      omega
    simp only [hf, Bool.false_and]
    clear hf H hb hE
    repeat' (first | refine xs ?_ ?_ <;> intros | (refine wn ?_; intro bx hbx; try simp only [fb] at hbx) | refine wj ?_ | simp -dsimp only [↓bp, bq, br, seval, tbRCodF, *] | refine wz ?_ | fail)
    all_goals rfl
   have q5' := eq_false q5
   by_cases q6 : 12 < e.arity
   ·have q6' := eq_true q6
    have hf : entOK ⟨es, is, cs⟩ b z e = false := by
     cases hh : entOK ⟨es, is, cs⟩ b z e with
     | false => rfl
     | true =>
      exfalso
      simp only [entOK, Bool.and_eq_true, decide_eq_true_eq] at hh
      omega
    simp only [hf, Bool.false_and]
    clear hf H hb hE
    repeat' (first | refine xs ?_ ?_ <;> intros | (refine wn ?_; intro bx hbx; try simp only [fb] at hbx) | refine wj ?_ | simp -dsimp only [↓bp, bq, br, seval, tbRCodF, *] | refine wz ?_ | fail)
    all_goals rfl
   have q6' := eq_false q6
   by_cases q7 : e.slots < e.arity
   ·have q7' := eq_true q7
    have hf : entOK ⟨es, is, cs⟩ b z e = false := by
     cases hh : entOK ⟨es, is, cs⟩ b z e with
     | false => rfl
     | true =>
      exfalso
      simp only [entOK, Bool.and_eq_true, decide_eq_true_eq] at hh
      omega
    simp only [hf, Bool.false_and]
    clear hf H hb hE
    repeat' (first | refine xs ?_ ?_ <;> intros | (refine wn ?_; intro bx hbx; try simp only [fb] at hbx) | refine wj ?_ | simp -dsimp only [↓bp, bq, br, seval, tbRCodF, *] | refine wz ?_ | fail)
    all_goals rfl
   have q7' := eq_false q7
   by_cases q8 : 1000 < e.slots
   ·have q8' := eq_true q8
    have hf : entOK ⟨es, is, cs⟩ b z e = false := by
     cases hh : entOK ⟨es, is, cs⟩ b z e with
     | false => rfl
     | true =>
      exfalso
      simp only [entOK, Bool.and_eq_true, decide_eq_true_eq] at hh
      omega
    simp only [hf, Bool.false_and]
    clear hf H hb hE
    repeat' (first | refine xs ?_ ?_ <;> intros | (refine wn ?_; intro bx hbx; try simp only [fb] at hbx) | refine wj ?_ | simp -dsimp only [↓bp, bq, br, seval, tbRCodF, *] | refine wz ?_ | fail)
    all_goals rfl
   have q8' := eq_false q8
   have ht : entOK ⟨es, is, cs⟩ b z e = true := by
    simp only [entOK, Bool.and_eq_true, decide_eq_true_eq]
    omega
   simp only [ht, Bool.true_and]
   clear ht
   have hb0 : 0 <= b := by omega
   repeat' (first | refine xs ?_ ?_ <;> intros | (refine wn ?_; intro bx hbx; try simp only [fb] at hbx) | refine wj ?_ | simp -dsimp only [↓bp, bq, br, seval, tbRCodF, *] | refine wz ?_ | fail)
   obtain ⟨P, hP⟩ : ∃ P : Nat, HdF (b = (P : Int)) := by
    obtain ⟨P, h⟩ := Int.eq_ofNat_of_zero_le hb0
    exact ⟨P, ⟨h⟩⟩
   obtain ⟨Z, hZ⟩ : ∃ Z : Nat, HdF (z = (Z : Int)) := by
    obtain ⟨P, h⟩ := Int.eq_ofNat_of_zero_le (a := z) (by omega)
    exact ⟨P, ⟨h⟩⟩
   have hPZ : P < Z := by have h1 := hP.out; have h2 := hZ.out; omega
   have hZl : Z <= is.length := by have h1 := hP.out; have h2 := hZ.out; omega
   have hpb : HdF (e.pos = (P : Int)) := ⟨by have h1 := hP.out; have h2 := hZ.out; omega⟩
   have hb' : HdF (b = e.pos) := ⟨by have h1 := hP.out; have h2 := hZ.out; omega⟩
   refine loop_keep mixed (fun n v => ∃ p : Nat, P <= p /\ p <= Z /\ n = Z - p /\ v 7 = .int .i64 p /\ (∀ (q : Nat) (i : Ins), P <= q -> q < p -> is[q]? = some i -> insRight ⟨es, is, cs⟩ e e.pos z i = true)) (Z - P)
    ⟨P, by omega, by omega, by omega, by first | (simp -dsimp only [↓bp, bq, br, seval, tbRCodF]; done) | (have h1 := hpb.out; simp -dsimp only [↓bp, bq, br, seval, tbRCodF]; exact congrArg (AV.int .i64) (by omega)), fun q i h1 h2 => by omega⟩ ?_
   rintro n v3 ⟨p, hp1, hp2, rfl, h7, hR⟩
   simp -dsimp only [↓bp, bq, br, seval, tbRCodF] at h7
   try clear g1 g1'
   have hs : z = (Z : Int) := hZ.out
   by_cases hlp : p < Z
   ·have hlp' : ((p : Int) < z) = True := eq_true (by omega)
    obtain ⟨i, hi⟩ : ∃ i, is[p]? = some i := ⟨_, List.getElem?_eq_getElem (by omega)⟩
    have hq := H.ri e i z (List.mem_of_getElem? hi)
    have hwp : IntKind.i64.wrap ((p : Int) + 1) = ((p + 1 : Nat) : Int) := by rw [wrap_nat (by omega) (by omega)]; rfl
    cases hr : insRight ⟨es, is, cs⟩ e e.pos z i with
    | false =>
     rw [hr] at hq
     have hf : (within ⟨es, is, cs⟩ b z).all (insRight ⟨es, is, cs⟩ e b z) = false := List.all_eq_false.2 ⟨i, within_get hb0 (by have := hP.out; omega) (by omega) hi, by rw [hb'.out, hr]; simp⟩
     simp only [hf, Bool.false_and]
     clear hf hr hR H hb hE hs hpb hb' hP hZ
     repeat' (first | refine xs ?_ ?_ <;> intros | (refine wn ?_; intro bx hbx; try simp only [fb] at hbx) | refine wp hq ?_ | refine wj ?_ | simp -dsimp only [↓bp, bq, br, seval, tbRCodF, *] | refine wz ?_ | fail)
     all_goals rfl
    | true =>
     rw [hr] at hq
     have hR2 : ∀ (q : Nat) (j : Ins), P <= q -> q < p + 1 -> is[q]? = some j -> insRight ⟨es, is, cs⟩ e e.pos z j = true := fun q j h1 h2 h3 => by
      by_cases hqp : q = p
      ·subst hqp; rw [hi] at h3; cases h3; exact hr
      ·exact hR q j h1 (by omega) h3
     clear hr hR H hb hE hs
     repeat' (first | refine xs ?_ ?_ <;> intros | (refine wn ?_; intro bx hbx; try simp only [fb] at hbx) | refine wp hq ?_ | refine wj ?_ | simp -dsimp only [↓bp, bq, br, seval, tbRCodF, *] | refine wz ?_ | fail)
     all_goals exact ⟨Z - (p + 1), by omega, p + 1, by omega, by omega, rfl, rfl, hR2⟩
   ·have : p = Z := by omega
    subst this
    have hlp' : ((p : Int) < z) = False := eq_false (by omega)
    have ha : (within ⟨es, is, cs⟩ b z).all (insRight ⟨es, is, cs⟩ e b z) = true := within_all hb0 fun q j h1 h2 h3 => by rw [hb'.out]; exact hR q j (by have := hP.out; omega) (by omega) h3
    simp only [ha, Bool.true_and]
    have hEz : entsOK ⟨es, is, cs⟩ z (es.drop (k + 1)) = entsOK ⟨es, is, cs⟩ (if k + 1 = 0 then 0 else endOf ⟨es, is, cs⟩ (es.drop (k + 1))) (es.drop (k + 1)) := by rw [if_neg (by omega), hz]
    have hz0 : 0 < k + 1 -> 0 <= endOf ⟨es, is, cs⟩ (es.drop (k + 1)) := fun _ => by rw [hz]; omega
    have hfin : ∃ m, m < es.length - k /\ ∃ k' : Nat, k' <= es.length /\ m = es.length - k' /\ AV.int .i64 ((k + 1 : Nat) : Int) = AV.int .i64 (k' : Int) /\ S.le S1 /\ (0 < k' -> 0 <= endOf ⟨es, is, cs⟩ (es.drop k')) /\ entsOK ⟨es, is, cs⟩ z (es.drop (k + 1)) = entsOK ⟨es, is, cs⟩ (if k' = 0 then 0 else endOf ⟨es, is, cs⟩ (es.drop k')) (es.drop k') := ⟨es.length - (k + 1), by omega, k + 1, by omega, rfl, rfl, l2', hz0, hEz⟩
    clear ha hR H hb hE hz hs hpb hb' hP hZ hz0 hEz
    have hfin := HdF.mk hfin
    repeat' (first | refine xs ?_ ?_ <;> intros | (refine wn ?_; intro bx hbx; try simp only [fb] at hbx) | refine wj ?_ | simp -dsimp only [↓bp, bq, br, seval, tbRCodF, *] | refine wz ?_ | fail)
    all_goals first | exact hfin.out | simpa [l2'] using hfin.out
end Go.Proofs.YtjmdaeabllkgnaaGreatDoor
