/- Code: which codes are right: the program's way. -/
import Derived.Test.YtjmdaeabllkgnaaGreatDoorY28
import Derived.Test.YtjmdaeabllkgnaaGreatDoorY18
import Derived.Test.YtjmdaeabllkgnaaGreatDoorY29
set_option linter.unusedVariables false
set_option linter.unusedSimpArgs false
set_option maxRecDepth 20000
set_option linter.defProp false
namespace Go.Proofs.YtjmdaeabllkgnaaGreatDoor
open Go Go.Av
def tbCodW := And.intro (And.intro (And.intro (And.intro (And.intro @tf3 @tf4) (And.intro @tf5 @tf9)) (And.intro (And.intro @tf37 @tf39) (And.intro @tf23 (And.intro @tf30 @tf21)))) (And.intro (And.intro (And.intro @tf53 @tf22) (And.intro @tf26 @tf24)) (And.intro (And.intro @tf74 @tf58) (And.intro @isv_rowOf (And.intro @flat_rowOf @len_rowOf))))) (And.intro (And.intro (And.intro (And.intro @ix_rowOf @isv_encs) (And.intro @flat_encs @len_encs)) (And.intro (And.intro @Ins.flat_enc @Ins.isv_enc) (And.intro @Ins.fold_enc (And.intro @Ent.flat_enc @Ent.isv_enc)))) (And.intro (And.intro (And.intro @Ent.fold_enc @Cod.flat_enc) (And.intro @Cod.isv_enc @Cod.fold_enc)) (And.intro (And.intro @ares_tmpc @ares_cellc) (And.intro @Term.fold_enc (And.intro @Term.isv_enc @Term.flat_enc)))))
variable {G : Nat -> AV}
def mx3 (a b c : Int) : Int := if c > (if b > a then b else a) then c else (if b > a then b else a)
theorem mx3_gt (a b c k : Int) : (k < mx3 a b c) = ¬ (a <= k /\ b <= k /\ c <= k) := propext (by unfold mx3; split <;> split <;> omega)
theorem l_max3 {P : Program} {ts : Array TypeId} {k k' k'' : IntKind} {a b c : Int} : ablt P .max ts [.int k a, .int k' b, .int k'' c] = some (.int k (mx3 a b c)) := by
 unfold ablt mx3; split <;> simp_all
theorem notRight_pure (t : Term) (ht : t.bulk <= 1000000000) : Pure Tryz.prog G 45 [t.enc] (.bool (!right t)) := by
 have hr := right_pure G t (by omega)
 generalize right t = r at *
 intro σ
 refine Tri.of_awp mixed Tryz.func45 rfl (by kernel_rfl) (by kernel_rfl) (by simp [Tryz.ntmps45]) Tryz.results45 ?_
 repeat' (first | refine xs ?_ ?_ <;> intros | (refine wn ?_; intro bx hbx; try simp only [fb] at hbx) | refine wp hr ?_ | refine wj ?_ | simp -dsimp only [↓bp, bq, br, seval, tbCodW, l_max3, *] | refine wz ?_ | fail)
 all_goals rfl
theorem notIns_pc (hg : GlobC G) {c : Cod} {e : Ent} {b z : Int} {σ0 : AS} {bx : Nat} (hb : σ0.box bx = some (chkC c e b z)) (hc : c.bulk <= 1000000000) (i : Ins) (hi : i.bulk <= 1000000000) : PureC Tryz.prog G 48 [i.enc, .ptr bx 0] σ0 (.bool (!insRight c e b z i)) := by
 intro σ hσ
 have hb' := hσ.box _ _ hb
 have hr := insRight_pure hg c e b z i hc hi
 generalize insRight c e b z i = r at *
 have hne : ∀ b', σ.fresh b' -> (bx = b') = False := fun b' h => eq_false fun e => by subst e; rw [h.1] at hb'; cases hb'
 unfold chkC at *
 clear hb
 refine Tri.of_awp mixed Tryz.func48 rfl (by kernel_rfl) (by kernel_rfl) (by simp [Tryz.ntmps48]) Tryz.results48 ?_
 repeat' (first | refine xs ?_ ?_ <;> intros | (refine wn ?_; intro bx hbx; try simp only [fb] at hbx) | refine wp hr ?_ | refine wj ?_ | simp -dsimp only [↓bp, bq, br, seval, tbCodW, l_max3, *] | refine wz ?_ | fail)
 all_goals rfl
theorem sl_ins (l : List Ins) (b z : Nat) (h1 : b <= z) (h2 : z <= l.length) : aslice Tryz.prog 23 (rowOf Ins.enc l) (some (.int .i64 b)) (some (.int .i64 z)) = some (rowOf Ins.enc ((l.take z).drop b)) := by
 rw [sl_rowOf Ins.len_flat l _ _ (by rw [tf23.2.2.2.1]; exact tf39.1)]
 simp [abnd, h1, h2]
set_option maxHeartbeats 16000000 in
theorem codRight_pure (hg : GlobC G) (c : Cod) (hc : c.bulk <= 1000000000) : Pure Tryz.prog G 12 [c.enc] (.bool (codRight c)) := by
 obtain ⟨es, is, cs⟩ := c
 have hb3 : bulkL Ent.bulk es <= 1000000000 /\ bulkL Ins.bulk is <= 1000000000 /\ bulks cs <= 1000000000 := by unfold Cod.bulk at hc; simp only at hc; omega
 have hle : es.length <= 1000000000 := Nat.le_trans (len_bulkL Ent.bulk_pos es) hb3.1
 have hli : is.length <= 1000000000 := Nat.le_trans (len_bulkL Ins.bulk_pos is) hb3.2.1
 intro σ
 have hcT := containsT_purec G (σ0 := σ) (f := 45) (caps := []) (fun t => !right t) cs (by have := len_le_bulks cs; omega) (fun t ht => (notRight_pure t (by have := bulkL_mem (f := Term.bulk) ht; rw [<- bulks_L] at this; omega)).pureC σ)
 have hce : (⟨es, is, cs⟩ : Cod).enc = .agg [rowOf Ent.enc es, rowOf Ins.enc is, encs cs] := rfl
 rw [hce]
 clear hce
 by_cases q1 : es.length <= 16384 /\ is.length <= 16384 /\ cs.length <= 16384
 case neg =>
  have q1' : (16384 < mx3 es.length is.length cs.length) = True := by rw [mx3_gt]; exact eq_true (by omega)
  have hv : codRight ⟨es, is, cs⟩ = false := by
   rw [Bool.eq_false_iff]; intro h; simp only [codRight, Bool.and_eq_true, decide_eq_true_eq] at h; omega
  rw [hv]
  clear hv q1 hg hc hb3 hle hli hcT
  refine Tri.of_awp mixed Tryz.func12 rfl (by kernel_rfl) (by kernel_rfl) (by simp [Tryz.ntmps12]) Tryz.results12 ?_
  repeat' (first | refine xs ?_ ?_ <;> intros | (refine wn ?_; intro bx hbx; try simp only [fb] at hbx) | refine wj ?_ | simp -dsimp only [↓bp, bq, br, seval, tbCodW, l_max3, *] | refine wz ?_ | fail)
  all_goals first | rfl | exact finishW_some σ (by repeat' first | exact lr _ | assumption | refine ls ?_ ?_ | refine lt ?_ ?_ | simp only [*]; done | simp only [fb, *, not_false_eq_true, and_self]; done | exact lf ‹_› (by simp only [*])) ⟨rfl, rfl⟩
 have q1' : (16384 < mx3 es.length is.length cs.length) = False := by rw [mx3_gt]; exact eq_false (by omega)
 by_cases q2 : es = [] /\ is ≠ []
 case pos =>
  have hv : codRight ⟨es, is, cs⟩ = false := by
   rw [Bool.eq_false_iff]; intro h; simp only [codRight, Bool.and_eq_true, Bool.not_eq_true', Bool.and_eq_false_iff, decide_eq_false_iff_not, Bool.not_eq_false', decide_eq_true_eq] at h
   exact h.1.2.elim (fun h => h q2.1) q2.2
  have q2' : ((es.length : Int) = 0) = True := eq_true (by rw [q2.1]; rfl)
  have q3' : (0 < (is.length : Int)) = True := eq_true (by have := List.length_pos_iff.2 q2.2; omega)
  rw [hv]
  clear hv q1 q2 hg hc hb3 hle hli hcT
  refine Tri.of_awp mixed Tryz.func12 rfl (by kernel_rfl) (by kernel_rfl) (by simp [Tryz.ntmps12]) Tryz.results12 ?_
  repeat' (first | refine xs ?_ ?_ <;> intros | (refine wn ?_; intro bx hbx; try simp only [fb] at hbx) | refine wj ?_ | simp -dsimp only [↓bp, bq, br, seval, tbCodW, l_max3, *] | refine wz ?_ | fail)
  all_goals first | rfl | exact finishW_some σ (by repeat' first | exact lr _ | assumption | refine ls ?_ ?_ | refine lt ?_ ?_ | simp only [*]; done | simp only [fb, *, not_false_eq_true, and_self]; done | exact lf ‹_› (by simp only [*])) ⟨rfl, rfl⟩
 have hv : codRight ⟨es, is, cs⟩ = (!(cs.any fun t => !right t) && entsOK ⟨es, is, cs⟩ 0 es) := by
  unfold codRight; simp only
  rw [decide_eq_true q1.1, decide_eq_true q1.2.1, decide_eq_true q1.2.2, List.not_any_eq_all_not]
  have : (!(decide (es = []) && !decide (is = []))) = true := by
   rw [Bool.not_eq_true', Bool.and_eq_false_iff]
   by_cases h : es = []
   ·right; rw [Bool.not_eq_false', decide_eq_true_eq]; exact Classical.byContradiction fun h' => q2 ⟨h, h'⟩
   ·left; exact decide_eq_false h
  rw [this]; simp
 rw [hv]
 generalize hct : (cs.any fun t => !right t) = ct at *
 clear hct hv
 have hq : (((es.length : Int) = 0) = False /\ es ≠ []) \/ (((es.length : Int) = 0) = True /\ es = [] /\ (0 < (is.length : Int)) = False) := by
  by_cases h : es = []
  ·right; refine ⟨eq_true (by rw [h]; rfl), h, eq_false ?_⟩
   have : is = [] := Classical.byContradiction fun h' => q2 ⟨h, h'⟩
   rw [this]; simp
  ·left; exact ⟨eq_false (by have := List.length_pos_iff.2 h; omega), h⟩
 have hbi := hb3.2.1
 clear q1 q2 hb3
 rcases hq with ⟨q4, q5⟩ | ⟨q4, q5, q6⟩
 case inr =>
  have hv0 : entsOK ⟨es, is, cs⟩ 0 es = true := by rw [q5]; rfl
  have q7 : (0 < (es.length : Int)) = False := eq_false (by rw [q5]; simp)
  rw [hv0]
  clear hg hc hle hv0 q5
  cases ct with
  | true =>
   refine Tri.of_awp mixed Tryz.func12 rfl (by kernel_rfl) (by kernel_rfl) (by simp [Tryz.ntmps12]) Tryz.results12 ?_
   repeat' (first | refine xs ?_ ?_ <;> intros | (refine wn ?_; intro bx hbx; try simp only [fb] at hbx) | refine PureC.use (hcT) (by repeat' first | exact lr _ | assumption | refine ls ?_ ?_ | refine lt ?_ ?_ | simp only [*]; done | simp only [fb, *, not_false_eq_true, and_self]; done | exact lf ‹_› (by simp only [*])) ?_ | refine wj ?_ | simp -dsimp only [↓bp, bq, br, seval, tbCodW, l_max3, *] | refine wz ?_ | fail)
   all_goals first | rfl | exact finishW_some σ (by repeat' first | exact lr _ | assumption | refine ls ?_ ?_ | refine lt ?_ ?_ | simp only [*]; done | simp only [fb, *, not_false_eq_true, and_self]; done | exact lf ‹_› (by simp only [*])) ⟨rfl, rfl⟩
  | false =>
   refine Tri.of_awp mixed Tryz.func12 rfl (by kernel_rfl) (by kernel_rfl) (by simp [Tryz.ntmps12]) Tryz.results12 ?_
   repeat' (first | refine xs ?_ ?_ <;> intros | (refine wn ?_; intro bx hbx; try simp only [fb] at hbx) | refine PureC.use (hcT) (by repeat' first | exact lr _ | assumption | refine ls ?_ ?_ | refine lt ?_ ?_ | simp only [*]; done | simp only [fb, *, not_false_eq_true, and_self]; done | exact lf ‹_› (by simp only [*])) ?_ | refine wj ?_ | simp -dsimp only [↓bp, bq, br, seval, tbCodW, l_max3, *] | refine wz ?_ | fail)
   refine loop_intro (fun n e' σ' => n = 0 /\ e' 37 = .int .i64 0 /\ σ.le σ') 0 ⟨rfl, by first | (simp -dsimp only [↓bp, bq, br, seval, tbCodW, l_max3]; done) | (simp -dsimp only [↓bp, bq, br, seval, tbCodW, l_max3]; try rfl), by repeat' first | exact lr _ | assumption | refine ls ?_ ?_ | refine lt ?_ ?_ | simp only [*]; done | simp only [fb, *, not_false_eq_true, and_self]; done | exact lf ‹_› (by simp only [*])⟩ ?_
   rintro n v σ2 ⟨rfl, h37, hle0⟩
   simp -dsimp only [↓bp, bq, br, seval, tbCodW, l_max3] at h37
   repeat' (first | refine xs ?_ ?_ <;> intros | (refine wn ?_; intro bx hbx; try simp only [fb] at hbx) | refine wj ?_ | simp -dsimp only [↓bp, bq, br, seval, tbCodW, l_max3, *] | refine wz ?_ | fail)
   all_goals first | rfl | exact finishW_some σ hle0 ⟨rfl, rfl⟩
 cases ct with
 | true =>
  clear hg hc hle
  refine Tri.of_awp mixed Tryz.func12 rfl (by kernel_rfl) (by kernel_rfl) (by simp [Tryz.ntmps12]) Tryz.results12 ?_
  repeat' (first | refine xs ?_ ?_ <;> intros | (refine wn ?_; intro bx hbx; try simp only [fb] at hbx) | refine PureC.use (hcT) (by repeat' first | exact lr _ | assumption | refine ls ?_ ?_ | refine lt ?_ ?_ | simp only [*]; done | simp only [fb, *, not_false_eq_true, and_self]; done | exact lf ‹_› (by simp only [*])) ?_ | refine wj ?_ | simp -dsimp only [↓bp, bq, br, seval, tbCodW, l_max3, *] | refine wz ?_ | fail)
  all_goals first | rfl | exact finishW_some σ (by repeat' first | exact lr _ | assumption | refine ls ?_ ?_ | refine lt ?_ ?_ | simp only [*]; done | simp only [fb, *, not_false_eq_true, and_self]; done | exact lf ‹_› (by simp only [*])) ⟨rfl, rfl⟩
 | false =>
 rw [Bool.not_false, Bool.true_and]
 refine Tri.of_awp mixed Tryz.func12 rfl (by kernel_rfl) (by kernel_rfl) (by simp [Tryz.ntmps12]) Tryz.results12 ?_
 repeat' (first | refine xs ?_ ?_ <;> intros | (refine wn ?_; intro bx hbx; try simp only [fb] at hbx) | refine PureC.use (hcT) (by repeat' first | exact lr _ | assumption | refine ls ?_ ?_ | refine lt ?_ ?_ | simp only [*]; done | simp only [fb, *, not_false_eq_true, and_self]; done | exact lf ‹_› (by simp only [*])) ?_ | refine wj ?_ | simp -dsimp only [↓bp, bq, br, seval, tbCodW, l_max3, *] | refine wz ?_ | fail)
 obtain ⟨S, hS⟩ : ∃ S, S = σ.setBox bx [rowOf Ent.enc es, rowOf Ins.enc is, encs cs] := ⟨_, rfl⟩
 have hS1 : S.box bx = some [rowOf Ent.enc es, rowOf Ins.enc is, encs cs] := by rw [hS]; simp [AS.setBox]
 have hleS : σ.le S := by rw [hS]; exact (AS.le.refl σ).setBox hbx.1 _
 rw [<- hS]
 clear hS hbx hcT q1' q4
 refine loop_intro (fun n e' σ' => ∃ i b : Nat, i <= es.length /\ n = es.length - i /\ e' 37 = .int .i64 i /\ e' 3 = .int .i64 b /\ S.le σ' /\ b <= is.length /\ entsOK ⟨es, is, cs⟩ 0 es = entsOK ⟨es, is, cs⟩ b (es.drop i)) es.length
  ⟨0, 0, by omega, by omega, by first | (simp -dsimp only [↓bp, bq, br, seval, tbCodW, l_max3]; done) | (simp -dsimp only [↓bp, bq, br, seval, tbCodW, l_max3]; try rfl), by first | (simp -dsimp only [↓bp, bq, br, seval, tbCodW, l_max3]; done) | (simp -dsimp only [↓bp, bq, br, seval, tbCodW, l_max3]; try rfl), AS.le.refl _, by omega, rfl⟩ ?_
 rintro n v σ2 ⟨i, b, hi, rfl, h37, h3, hleR, hb, hent⟩
 simp -dsimp only [↓bp, bq, br, seval, tbCodW, l_max3] at h37
 simp -dsimp only [↓bp, bq, br, seval, tbCodW, l_max3] at h3
 have hb1 := hleR.box _ _ hS1
 have hle0 := hleS.trans hleR
 have hne : ∀ b', σ2.fresh b' -> (bx = b') = False := fun b' h => eq_false fun e => by subst e; rw [h.1] at hb1; cases hb1
 by_cases hlt : i < es.length
 case neg =>
  have : i = es.length := by omega
  subst this
  rw [List.drop_length] at hent
  have hlt' : ((es.length : Int) < es.length) = False := eq_false (by omega)
  rw [hent, show entsOK ⟨es, is, cs⟩ b [] = true from rfl]
  clear hg hc hle hli hbi hlt hb hent hi
  repeat' (first | refine xs ?_ ?_ <;> intros | (refine wn ?_; intro bx hbx; try simp only [fb] at hbx) | refine wj ?_ | simp -dsimp only [↓bp, bq, br, seval, tbCodW, l_max3, *] | refine wz ?_ | fail)
  all_goals first | rfl | exact finishW_some σ hle0 ⟨rfl, rfl⟩
 obtain ⟨e, hk⟩ : ∃ e, es[i]? = some e := ⟨_, List.getElem?_eq_getElem hlt⟩
 have hdrop : es.drop i = e :: es.drop (i + 1) := by
  rw [List.drop_eq_getElem_cons hlt]; congr 1; rw [List.getElem?_eq_getElem hlt] at hk; exact Option.some.inj hk
 have hwi : IntKind.i64.wrap ((i : Int) + 1) = ((i + 1 : Nat) : Int) := by rw [wrap_nat (by omega) (by omega)]; rfl
 have hlt' : ((i : Int) < es.length) = True := eq_true (by omega)
 by_cases hl2 : i + 1 < es.length
 ·obtain ⟨e2, hk2⟩ : ∃ e, es[i + 1]? = some e := ⟨_, List.getElem?_eq_getElem hl2⟩
  have hl2' : (((i + 1 : Nat) : Int) < es.length) = True := eq_true (by omega)
  have hend : endOf ⟨es, is, cs⟩ (es.drop (i + 1)) = e2.pos := by
   rw [List.drop_eq_getElem_cons hl2]; rw [List.getElem?_eq_getElem hl2] at hk2; rw [Option.some.inj hk2]; rfl
  clear hl2
  by_cases c0 : e.pos = (b : Int)
  case neg =>
   have hbad : entOK ⟨es, is, cs⟩ b e2.pos e = false := by
    rw [Bool.eq_false_iff]; intro h; simp only [entOK, Bool.and_eq_true, decide_eq_true_eq] at h; omega
   have hv2 : entsOK ⟨es, is, cs⟩ 0 es = false := by rw [hent, hdrop]; simp only [entsOK]; rw [hend, hbad, Bool.false_and]
   rw [hv2]
   have g0 := eq_false c0
   clear hv2 hbad hg hc hli hbi hle hent hdrop hend hlt hi hb c0
   repeat' (first | refine xs ?_ ?_ <;> intros | (refine wn ?_; intro bx hbx; try simp only [fb] at hbx) | refine wj ?_ | simp -dsimp only [↓bp, bq, br, seval, tbCodW, l_max3, *] | refine wz ?_ | fail)
   all_goals first | rfl | exact finishW_some σ (hle0.trans (by repeat' first | exact lr _ | assumption | refine ls ?_ ?_ | refine lt ?_ ?_ | simp only [*]; done | simp only [fb, *, not_false_eq_true, and_self]; done | exact lf ‹_› (by simp only [*]))) ⟨rfl, rfl⟩
  by_cases c1 : e2.pos <= (b : Int)
  case pos =>
   have hbad : entOK ⟨es, is, cs⟩ b e2.pos e = false := by
    rw [Bool.eq_false_iff]; intro h; simp only [entOK, Bool.and_eq_true, decide_eq_true_eq] at h; omega
   have hv2 : entsOK ⟨es, is, cs⟩ 0 es = false := by rw [hent, hdrop]; simp only [entsOK]; rw [hend, hbad, Bool.false_and]
   rw [hv2]
   have g0 := eq_true c0
   have g1 := eq_true c1
   clear hv2 hbad hg hc hli hbi hle hent hdrop hend hlt hi hb c0 c1
   repeat' (first | refine xs ?_ ?_ <;> intros | (refine wn ?_; intro bx hbx; try simp only [fb] at hbx) | refine wj ?_ | simp -dsimp only [↓bp, bq, br, seval, tbCodW, l_max3, *] | refine wz ?_ | fail)
   all_goals first | rfl | exact finishW_some σ (hle0.trans (by repeat' first | exact lr _ | assumption | refine ls ?_ ?_ | refine lt ?_ ?_ | simp only [*]; done | simp only [fb, *, not_false_eq_true, and_self]; done | exact lf ‹_› (by simp only [*]))) ⟨rfl, rfl⟩
  by_cases c2 : (is.length : Int) < e2.pos
  case pos =>
   have hbad : entOK ⟨es, is, cs⟩ b e2.pos e = false := by
    rw [Bool.eq_false_iff]; intro h; simp only [entOK, Bool.and_eq_true, decide_eq_true_eq] at h; omega
   have hv2 : entsOK ⟨es, is, cs⟩ 0 es = false := by rw [hent, hdrop]; simp only [entsOK]; rw [hend, hbad, Bool.false_and]
   rw [hv2]
   have g0 := eq_true c0
   have g1 := eq_false c1
   have g2 := eq_true c2
   clear hv2 hbad hg hc hli hbi hle hent hdrop hend hlt hi hb c0 c1 c2
   repeat' (first | refine xs ?_ ?_ <;> intros | (refine wn ?_; intro bx hbx; try simp only [fb] at hbx) | refine wj ?_ | simp -dsimp only [↓bp, bq, br, seval, tbCodW, l_max3, *] | refine wz ?_ | fail)
   all_goals first | rfl | exact finishW_some σ (hle0.trans (by repeat' first | exact lr _ | assumption | refine ls ?_ ?_ | refine lt ?_ ?_ | simp only [*]; done | simp only [fb, *, not_false_eq_true, and_self]; done | exact lf ‹_› (by simp only [*]))) ⟨rfl, rfl⟩
  by_cases c3 : 40 < (e.name.length : Int)
  case pos =>
   have hbad : entOK ⟨es, is, cs⟩ b e2.pos e = false := by
    rw [Bool.eq_false_iff]; intro h; simp only [entOK, Bool.and_eq_true, decide_eq_true_eq] at h; omega
   have hv2 : entsOK ⟨es, is, cs⟩ 0 es = false := by rw [hent, hdrop]; simp only [entsOK]; rw [hend, hbad, Bool.false_and]
   rw [hv2]
   have g0 := eq_true c0
   have g1 := eq_false c1
   have g2 := eq_false c2
   have g3 := eq_true c3
   clear hv2 hbad hg hc hli hbi hle hent hdrop hend hlt hi hb c0 c1 c2 c3
   repeat' (first | refine xs ?_ ?_ <;> intros | (refine wn ?_; intro bx hbx; try simp only [fb] at hbx) | refine wj ?_ | simp -dsimp only [↓bp, bq, br, seval, tbCodW, l_max3, *] | refine wz ?_ | fail)
   all_goals first | rfl | exact finishW_some σ (hle0.trans (by repeat' first | exact lr _ | assumption | refine ls ?_ ?_ | refine lt ?_ ?_ | simp only [*]; done | simp only [fb, *, not_false_eq_true, and_self]; done | exact lf ‹_› (by simp only [*]))) ⟨rfl, rfl⟩
  by_cases c4 : e.extra < 0
  case pos =>
   have hbad : entOK ⟨es, is, cs⟩ b e2.pos e = false := by
    rw [Bool.eq_false_iff]; intro h; simp only [entOK, Bool.and_eq_true, decide_eq_true_eq] at h; omega
   have hv2 : entsOK ⟨es, is, cs⟩ 0 es = false := by rw [hent, hdrop]; simp only [entsOK]; rw [hend, hbad, Bool.false_and]
   rw [hv2]
   have g0 := eq_true c0
   have g1 := eq_false c1
   have g2 := eq_false c2
   have g3 := eq_false c3
   have g4 := eq_true c4
   clear hv2 hbad hg hc hli hbi hle hent hdrop hend hlt hi hb c0 c1 c2 c3 c4
   repeat' (first | refine xs ?_ ?_ <;> intros | (refine wn ?_; intro bx hbx; try simp only [fb] at hbx) | refine wj ?_ | simp -dsimp only [↓bp, bq, br, seval, tbCodW, l_max3, *] | refine wz ?_ | fail)
   all_goals first | rfl | exact finishW_some σ (hle0.trans (by repeat' first | exact lr _ | assumption | refine ls ?_ ?_ | refine lt ?_ ?_ | simp only [*]; done | simp only [fb, *, not_false_eq_true, and_self]; done | exact lf ‹_› (by simp only [*]))) ⟨rfl, rfl⟩
  by_cases c5 : e.arity < e.extra
  case pos =>
   have hbad : entOK ⟨es, is, cs⟩ b e2.pos e = false := by
    rw [Bool.eq_false_iff]; intro h; simp only [entOK, Bool.and_eq_true, decide_eq_true_eq] at h; omega
   have hv2 : entsOK ⟨es, is, cs⟩ 0 es = false := by rw [hent, hdrop]; simp only [entsOK]; rw [hend, hbad, Bool.false_and]
   rw [hv2]
   have g0 := eq_true c0
   have g1 := eq_false c1
   have g2 := eq_false c2
   have g3 := eq_false c3
   have g4 := eq_false c4
   have g5 := eq_true c5
   clear hv2 hbad hg hc hli hbi hle hent hdrop hend hlt hi hb c0 c1 c2 c3 c4 c5
   repeat' (first | refine xs ?_ ?_ <;> intros | (refine wn ?_; intro bx hbx; try simp only [fb] at hbx) | refine wj ?_ | simp -dsimp only [↓bp, bq, br, seval, tbCodW, l_max3, *] | refine wz ?_ | fail)
   all_goals first | rfl | exact finishW_some σ (hle0.trans (by repeat' first | exact lr _ | assumption | refine ls ?_ ?_ | refine lt ?_ ?_ | simp only [*]; done | simp only [fb, *, not_false_eq_true, and_self]; done | exact lf ‹_› (by simp only [*]))) ⟨rfl, rfl⟩
  by_cases c6 : 12 < e.arity
  case pos =>
   have hbad : entOK ⟨es, is, cs⟩ b e2.pos e = false := by
    rw [Bool.eq_false_iff]; intro h; simp only [entOK, Bool.and_eq_true, decide_eq_true_eq] at h; omega
   have hv2 : entsOK ⟨es, is, cs⟩ 0 es = false := by rw [hent, hdrop]; simp only [entsOK]; rw [hend, hbad, Bool.false_and]
   rw [hv2]
   have g0 := eq_true c0
   have g1 := eq_false c1
   have g2 := eq_false c2
   have g3 := eq_false c3
   have g4 := eq_false c4
   have g5 := eq_false c5
   have g6 := eq_true c6
   clear hv2 hbad hg hc hli hbi hle hent hdrop hend hlt hi hb c0 c1 c2 c3 c4 c5 c6
   repeat' (first | refine xs ?_ ?_ <;> intros | (refine wn ?_; intro bx hbx; try simp only [fb] at hbx) | refine wj ?_ | simp -dsimp only [↓bp, bq, br, seval, tbCodW, l_max3, *] | refine wz ?_ | fail)
   all_goals first | rfl | exact finishW_some σ (hle0.trans (by repeat' first | exact lr _ | assumption | refine ls ?_ ?_ | refine lt ?_ ?_ | simp only [*]; done | simp only [fb, *, not_false_eq_true, and_self]; done | exact lf ‹_› (by simp only [*]))) ⟨rfl, rfl⟩
  by_cases c7 : e.slots < e.arity
  case pos =>
   have hbad : entOK ⟨es, is, cs⟩ b e2.pos e = false := by
    rw [Bool.eq_false_iff]; intro h; simp only [entOK, Bool.and_eq_true, decide_eq_true_eq] at h; omega
   have hv2 : entsOK ⟨es, is, cs⟩ 0 es = false := by rw [hent, hdrop]; simp only [entsOK]; rw [hend, hbad, Bool.false_and]
   rw [hv2]
   have g0 := eq_true c0
   have g1 := eq_false c1
   have g2 := eq_false c2
   have g3 := eq_false c3
   have g4 := eq_false c4
   have g5 := eq_false c5
   have g6 := eq_false c6
   have g7 := eq_true c7
   clear hv2 hbad hg hc hli hbi hle hent hdrop hend hlt hi hb c0 c1 c2 c3 c4 c5 c6 c7
   repeat' (first | refine xs ?_ ?_ <;> intros | (refine wn ?_; intro bx hbx; try simp only [fb] at hbx) | refine wj ?_ | simp -dsimp only [↓bp, bq, br, seval, tbCodW, l_max3, *] | refine wz ?_ | fail)
   all_goals first | rfl | exact finishW_some σ (hle0.trans (by repeat' first | exact lr _ | assumption | refine ls ?_ ?_ | refine lt ?_ ?_ | simp only [*]; done | simp only [fb, *, not_false_eq_true, and_self]; done | exact lf ‹_› (by simp only [*]))) ⟨rfl, rfl⟩
  by_cases c8 : 1000 < e.slots
  case pos =>
   have hbad : entOK ⟨es, is, cs⟩ b e2.pos e = false := by
    rw [Bool.eq_false_iff]; intro h; simp only [entOK, Bool.and_eq_true, decide_eq_true_eq] at h; omega
   have hv2 : entsOK ⟨es, is, cs⟩ 0 es = false := by rw [hent, hdrop]; simp only [entsOK]; rw [hend, hbad, Bool.false_and]
   rw [hv2]
   have g0 := eq_true c0
   have g1 := eq_false c1
   have g2 := eq_false c2
   have g3 := eq_false c3
   have g4 := eq_false c4
   have g5 := eq_false c5
   have g6 := eq_false c6
   have g7 := eq_false c7
   have g8 := eq_true c8
   clear hv2 hbad hg hc hli hbi hle hent hdrop hend hlt hi hb c0 c1 c2 c3 c4 c5 c6 c7 c8
   repeat' (first | refine xs ?_ ?_ <;> intros | (refine wn ?_; intro bx hbx; try simp only [fb] at hbx) | refine wj ?_ | simp -dsimp only [↓bp, bq, br, seval, tbCodW, l_max3, *] | refine wz ?_ | fail)
   all_goals first | rfl | exact finishW_some σ (hle0.trans (by repeat' first | exact lr _ | assumption | refine ls ?_ ?_ | refine lt ?_ ?_ | simp only [*]; done | simp only [fb, *, not_false_eq_true, and_self]; done | exact lf ‹_› (by simp only [*]))) ⟨rfl, rfl⟩
  obtain ⟨z, hz⟩ := Int.eq_ofNat_of_zero_le (a := e2.pos) (by omega)
  have hgood : entOK ⟨es, is, cs⟩ b e2.pos e = true := by
   simp only [entOK, Bool.and_eq_true, decide_eq_true_eq]; omega
  have g0 := eq_true c0
  have g1 := eq_false c1
  have g2 := eq_false c2
  have g3 := eq_false c3
  have g4 := eq_false c4
  have g5 := eq_false c5
  have g6 := eq_false c6
  have g7 := eq_false c7
  have g8 := eq_false c8
  have hbz : b <= z /\ z <= is.length := by omega
  replace hz := hz.symm
  have hsl := sl_ins is b z hbz.1 hbz.2
  rw [hz] at hsl
  have hwi' : within ⟨es, is, cs⟩ b e2.pos = (is.take z).drop b := by unfold within; rw [<- hz]; rfl
  have hv2 : entsOK ⟨es, is, cs⟩ 0 es = (!(((is.take z).drop b).any fun x => !insRight ⟨es, is, cs⟩ e b e2.pos x) && entsOK ⟨es, is, cs⟩ e2.pos (es.drop (i + 1))) := by
   rw [hent, hdrop]; simp only [entsOK]; rw [hend, hgood, Bool.true_and, hwi', List.not_any_eq_all_not]; simp
  have hcn : ∀ {s0 : AS} {bx : Nat}, s0.box bx = some [rowOf Ent.enc es, rowOf Ins.enc is, encs cs, .str e.name, .int .i64 e.arity, .int .i64 e.extra, .int .i64 e.slots, .int .i64 e.pos, .int .i64 b, .int .i64 e2.pos] -> PureC Tryz.prog G 47 [rowOf Ins.enc ((is.take z).drop b), .fn 48 [.ptr bx 0]] s0 (.bool (((is.take z).drop b).any fun x => !insRight ⟨es, is, cs⟩ e b e2.pos x)) := fun {s0 bx} h0 =>
   containsN_purec G (fun x => !insRight ⟨es, is, cs⟩ e b e2.pos x) _ (by rw [List.length_drop, List.length_take]; omega) (fun x hx => notIns_pc hg h0 hc x (by have := bulkL_mem (f := Ins.bulk) (List.mem_of_mem_take (List.mem_of_mem_drop hx)); omega))
  generalize (((is.take z).drop b).any fun x => !insRight ⟨es, is, cs⟩ e b e2.pos x) = r at *
  skip
  clear hg hc hli hbi hent hend hwi' hgood hb c0 c1 c2 c3 c4 c5 c6 c7 c8
  cases r with
  | true =>
   rw [hv2, Bool.not_true, Bool.false_and]
   clear hv2 hdrop hlt hi
   repeat' (first | refine xs ?_ ?_ <;> intros | (refine wn ?_; intro bx hbx; try simp only [fb] at hbx) | (refine PureC.use (hcn AS.set_get) (AS.le.refl _) ?_) | refine wj ?_ | simp -dsimp only [↓bp, bq, br, seval, tbCodW, l_max3, *] | refine wz ?_ | fail)
   all_goals first | rfl | exact finishW_some σ (hle0.trans (by repeat' first | exact lr _ | assumption | refine ls ?_ ?_ | refine lt ?_ ?_ | simp only [*]; done | simp only [fb, *, not_false_eq_true, and_self]; done | exact lf ‹_› (by simp only [*]))) ⟨rfl, rfl⟩
  | false =>
   rw [Bool.not_false, Bool.true_and] at hv2
   clear hdrop
   repeat' (first | refine xs ?_ ?_ <;> intros | (refine wn ?_; intro bx hbx; try simp only [fb] at hbx) | (refine PureC.use (hcn AS.set_get) (AS.le.refl _) ?_) | refine wj ?_ | simp -dsimp only [↓bp, bq, br, seval, tbCodW, l_max3, *] | refine wz ?_ | fail)
   all_goals refine ⟨es.length - (i + 1), by omega, i + 1, z, by omega, rfl, by first | (simp -dsimp only [↓bp, bq, br, seval, tbCodW, l_max3]; done) | (simp -dsimp only [↓bp, bq, br, seval, tbCodW, l_max3]; try rfl), by first | rw [hz] | (rw [hz]; first | (simp -dsimp only [↓bp, bq, br, seval, tbCodW, l_max3]; done) | (simp -dsimp only [↓bp, bq, br, seval, tbCodW, l_max3]; try rfl)), by repeat' first | exact lr _ | assumption | refine ls ?_ ?_ | refine lt ?_ ?_ | simp only [*]; done | simp only [fb, *, not_false_eq_true, and_self]; done | exact lf ‹_› (by simp only [*]), hbz.2, by first | rw [hz] | rw [hv2, hz]⟩
 ·have hl2' : (((i + 1 : Nat) : Int) < es.length) = False := eq_false (by omega)
  have hend : endOf ⟨es, is, cs⟩ (es.drop (i + 1)) = (is.length : Int) := by rw [List.drop_of_length_le (by omega)]; rfl
  clear hl2
  by_cases c0 : e.pos = (b : Int)
  case neg =>
   have hbad : entOK ⟨es, is, cs⟩ b (is.length : Int) e = false := by
    rw [Bool.eq_false_iff]; intro h; simp only [entOK, Bool.and_eq_true, decide_eq_true_eq] at h; omega
   have hv2 : entsOK ⟨es, is, cs⟩ 0 es = false := by rw [hent, hdrop]; simp only [entsOK]; rw [hend, hbad, Bool.false_and]
   rw [hv2]
   have g0 := eq_false c0
   clear hv2 hbad hg hc hli hbi hle hent hdrop hend hlt hi hb c0
   repeat' (first | refine xs ?_ ?_ <;> intros | (refine wn ?_; intro bx hbx; try simp only [fb] at hbx) | refine wj ?_ | simp -dsimp only [↓bp, bq, br, seval, tbCodW, l_max3, *] | refine wz ?_ | fail)
   all_goals first | rfl | exact finishW_some σ (hle0.trans (by repeat' first | exact lr _ | assumption | refine ls ?_ ?_ | refine lt ?_ ?_ | simp only [*]; done | simp only [fb, *, not_false_eq_true, and_self]; done | exact lf ‹_› (by simp only [*]))) ⟨rfl, rfl⟩
  by_cases c1 : (is.length : Int) <= (b : Int)
  case pos =>
   have hbad : entOK ⟨es, is, cs⟩ b (is.length : Int) e = false := by
    rw [Bool.eq_false_iff]; intro h; simp only [entOK, Bool.and_eq_true, decide_eq_true_eq] at h; omega
   have hv2 : entsOK ⟨es, is, cs⟩ 0 es = false := by rw [hent, hdrop]; simp only [entsOK]; rw [hend, hbad, Bool.false_and]
   rw [hv2]
   have g0 := eq_true c0
   have g1 := eq_true c1
   clear hv2 hbad hg hc hli hbi hle hent hdrop hend hlt hi hb c0 c1
   repeat' (first | refine xs ?_ ?_ <;> intros | (refine wn ?_; intro bx hbx; try simp only [fb] at hbx) | refine wj ?_ | simp -dsimp only [↓bp, bq, br, seval, tbCodW, l_max3, *] | refine wz ?_ | fail)
   all_goals first | rfl | exact finishW_some σ (hle0.trans (by repeat' first | exact lr _ | assumption | refine ls ?_ ?_ | refine lt ?_ ?_ | simp only [*]; done | simp only [fb, *, not_false_eq_true, and_self]; done | exact lf ‹_› (by simp only [*]))) ⟨rfl, rfl⟩
  by_cases c2 : (is.length : Int) < (is.length : Int)
  case pos =>
   have hbad : entOK ⟨es, is, cs⟩ b (is.length : Int) e = false := by
    rw [Bool.eq_false_iff]; intro h; simp only [entOK, Bool.and_eq_true, decide_eq_true_eq] at h; omega
   have hv2 : entsOK ⟨es, is, cs⟩ 0 es = false := by rw [hent, hdrop]; simp only [entsOK]; rw [hend, hbad, Bool.false_and]
   rw [hv2]
   have g0 := eq_true c0
   have g1 := eq_false c1
   have g2 := eq_true c2
   clear hv2 hbad hg hc hli hbi hle hent hdrop hend hlt hi hb c0 c1 c2
   repeat' (first | refine xs ?_ ?_ <;> intros | (refine wn ?_; intro bx hbx; try simp only [fb] at hbx) | refine wj ?_ | simp -dsimp only [↓bp, bq, br, seval, tbCodW, l_max3, *] | refine wz ?_ | fail)
   all_goals first | rfl | exact finishW_some σ (hle0.trans (by repeat' first | exact lr _ | assumption | refine ls ?_ ?_ | refine lt ?_ ?_ | simp only [*]; done | simp only [fb, *, not_false_eq_true, and_self]; done | exact lf ‹_› (by simp only [*]))) ⟨rfl, rfl⟩
  by_cases c3 : 40 < (e.name.length : Int)
  case pos =>
   have hbad : entOK ⟨es, is, cs⟩ b (is.length : Int) e = false := by
    rw [Bool.eq_false_iff]; intro h; simp only [entOK, Bool.and_eq_true, decide_eq_true_eq] at h; omega
   have hv2 : entsOK ⟨es, is, cs⟩ 0 es = false := by rw [hent, hdrop]; simp only [entsOK]; rw [hend, hbad, Bool.false_and]
   rw [hv2]
   have g0 := eq_true c0
   have g1 := eq_false c1
   have g2 := eq_false c2
   have g3 := eq_true c3
   clear hv2 hbad hg hc hli hbi hle hent hdrop hend hlt hi hb c0 c1 c2 c3
   repeat' (first | refine xs ?_ ?_ <;> intros | (refine wn ?_; intro bx hbx; try simp only [fb] at hbx) | refine wj ?_ | simp -dsimp only [↓bp, bq, br, seval, tbCodW, l_max3, *] | refine wz ?_ | fail)
   all_goals first | rfl | exact finishW_some σ (hle0.trans (by repeat' first | exact lr _ | assumption | refine ls ?_ ?_ | refine lt ?_ ?_ | simp only [*]; done | simp only [fb, *, not_false_eq_true, and_self]; done | exact lf ‹_› (by simp only [*]))) ⟨rfl, rfl⟩
  by_cases c4 : e.extra < 0
  case pos =>
   have hbad : entOK ⟨es, is, cs⟩ b (is.length : Int) e = false := by
    rw [Bool.eq_false_iff]; intro h; simp only [entOK, Bool.and_eq_true, decide_eq_true_eq] at h; omega
   have hv2 : entsOK ⟨es, is, cs⟩ 0 es = false := by rw [hent, hdrop]; simp only [entsOK]; rw [hend, hbad, Bool.false_and]
   rw [hv2]
   have g0 := eq_true c0
   have g1 := eq_false c1
   have g2 := eq_false c2
   have g3 := eq_false c3
   have g4 := eq_true c4
   clear hv2 hbad hg hc hli hbi hle hent hdrop hend hlt hi hb c0 c1 c2 c3 c4
   repeat' (first | refine xs ?_ ?_ <;> intros | (refine wn ?_; intro bx hbx; try simp only [fb] at hbx) | refine wj ?_ | simp -dsimp only [↓bp, bq, br, seval, tbCodW, l_max3, *] | refine wz ?_ | fail)
   all_goals first | rfl | exact finishW_some σ (hle0.trans (by repeat' first | exact lr _ | assumption | refine ls ?_ ?_ | refine lt ?_ ?_ | simp only [*]; done | simp only [fb, *, not_false_eq_true, and_self]; done | exact lf ‹_› (by simp only [*]))) ⟨rfl, rfl⟩
  by_cases c5 : e.arity < e.extra
  case pos =>
   have hbad : entOK ⟨es, is, cs⟩ b (is.length : Int) e = false := by
    rw [Bool.eq_false_iff]; intro h; simp only [entOK, Bool.and_eq_true, decide_eq_true_eq] at h; omega
   have hv2 : entsOK ⟨es, is, cs⟩ 0 es = false := by rw [hent, hdrop]; simp only [entsOK]; rw [hend, hbad, Bool.false_and]
   rw [hv2]
   have g0 := eq_true c0
   have g1 := eq_false c1
   have g2 := eq_false c2
   have g3 := eq_false c3
   have g4 := eq_false c4
   have g5 := eq_true c5
   clear hv2 hbad hg hc hli hbi hle hent hdrop hend hlt hi hb c0 c1 c2 c3 c4 c5
   repeat' (first | refine xs ?_ ?_ <;> intros | (refine wn ?_; intro bx hbx; try simp only [fb] at hbx) | refine wj ?_ | simp -dsimp only [↓bp, bq, br, seval, tbCodW, l_max3, *] | refine wz ?_ | fail)
   all_goals first | rfl | exact finishW_some σ (hle0.trans (by repeat' first | exact lr _ | assumption | refine ls ?_ ?_ | refine lt ?_ ?_ | simp only [*]; done | simp only [fb, *, not_false_eq_true, and_self]; done | exact lf ‹_› (by simp only [*]))) ⟨rfl, rfl⟩
  by_cases c6 : 12 < e.arity
  case pos =>
   have hbad : entOK ⟨es, is, cs⟩ b (is.length : Int) e = false := by
    rw [Bool.eq_false_iff]; intro h; simp only [entOK, Bool.and_eq_true, decide_eq_true_eq] at h; omega
   have hv2 : entsOK ⟨es, is, cs⟩ 0 es = false := by rw [hent, hdrop]; simp only [entsOK]; rw [hend, hbad, Bool.false_and]
   rw [hv2]
   have g0 := eq_true c0
   have g1 := eq_false c1
   have g2 := eq_false c2
   have g3 := eq_false c3
   have g4 := eq_false c4
   have g5 := eq_false c5
   have g6 := eq_true c6
   clear hv2 hbad hg hc hli hbi hle hent hdrop hend hlt hi hb c0 c1 c2 c3 c4 c5 c6
   repeat' (first | refine xs ?_ ?_ <;> intros | (refine wn ?_; intro bx hbx; try simp only [fb] at hbx) | refine wj ?_ | simp -dsimp only [↓bp, bq, br, seval, tbCodW, l_max3, *] | refine wz ?_ | fail)
   all_goals first | rfl | exact finishW_some σ (hle0.trans (by repeat' first | exact lr _ | assumption | refine ls ?_ ?_ | refine lt ?_ ?_ | simp only [*]; done | simp only [fb, *, not_false_eq_true, and_self]; done | exact lf ‹_› (by simp only [*]))) ⟨rfl, rfl⟩
  by_cases c7 : e.slots < e.arity
  case pos =>
   have hbad : entOK ⟨es, is, cs⟩ b (is.length : Int) e = false := by
    rw [Bool.eq_false_iff]; intro h; simp only [entOK, Bool.and_eq_true, decide_eq_true_eq] at h; omega
   have hv2 : entsOK ⟨es, is, cs⟩ 0 es = false := by rw [hent, hdrop]; simp only [entsOK]; rw [hend, hbad, Bool.false_and]
   rw [hv2]
   have g0 := eq_true c0
   have g1 := eq_false c1
   have g2 := eq_false c2
   have g3 := eq_false c3
   have g4 := eq_false c4
   have g5 := eq_false c5
   have g6 := eq_false c6
   have g7 := eq_true c7
   clear hv2 hbad hg hc hli hbi hle hent hdrop hend hlt hi hb c0 c1 c2 c3 c4 c5 c6 c7
   repeat' (first | refine xs ?_ ?_ <;> intros | (refine wn ?_; intro bx hbx; try simp only [fb] at hbx) | refine wj ?_ | simp -dsimp only [↓bp, bq, br, seval, tbCodW, l_max3, *] | refine wz ?_ | fail)
   all_goals first | rfl | exact finishW_some σ (hle0.trans (by repeat' first | exact lr _ | assumption | refine ls ?_ ?_ | refine lt ?_ ?_ | simp only [*]; done | simp only [fb, *, not_false_eq_true, and_self]; done | exact lf ‹_› (by simp only [*]))) ⟨rfl, rfl⟩
  by_cases c8 : 1000 < e.slots
  case pos =>
   have hbad : entOK ⟨es, is, cs⟩ b (is.length : Int) e = false := by
    rw [Bool.eq_false_iff]; intro h; simp only [entOK, Bool.and_eq_true, decide_eq_true_eq] at h; omega
   have hv2 : entsOK ⟨es, is, cs⟩ 0 es = false := by rw [hent, hdrop]; simp only [entsOK]; rw [hend, hbad, Bool.false_and]
   rw [hv2]
   have g0 := eq_true c0
   have g1 := eq_false c1
   have g2 := eq_false c2
   have g3 := eq_false c3
   have g4 := eq_false c4
   have g5 := eq_false c5
   have g6 := eq_false c6
   have g7 := eq_false c7
   have g8 := eq_true c8
   clear hv2 hbad hg hc hli hbi hle hent hdrop hend hlt hi hb c0 c1 c2 c3 c4 c5 c6 c7 c8
   repeat' (first | refine xs ?_ ?_ <;> intros | (refine wn ?_; intro bx hbx; try simp only [fb] at hbx) | refine wj ?_ | simp -dsimp only [↓bp, bq, br, seval, tbCodW, l_max3, *] | refine wz ?_ | fail)
   all_goals first | rfl | exact finishW_some σ (hle0.trans (by repeat' first | exact lr _ | assumption | refine ls ?_ ?_ | refine lt ?_ ?_ | simp only [*]; done | simp only [fb, *, not_false_eq_true, and_self]; done | exact lf ‹_› (by simp only [*]))) ⟨rfl, rfl⟩
  obtain ⟨z, hz⟩ := Int.eq_ofNat_of_zero_le (a := (is.length : Int)) (by omega)
  have hgood : entOK ⟨es, is, cs⟩ b (is.length : Int) e = true := by
   simp only [entOK, Bool.and_eq_true, decide_eq_true_eq]; omega
  have g0 := eq_true c0
  have g1 := eq_false c1
  have g2 := eq_false c2
  have g3 := eq_false c3
  have g4 := eq_false c4
  have g5 := eq_false c5
  have g6 := eq_false c6
  have g7 := eq_false c7
  have g8 := eq_false c8
  have hbz : b <= z /\ z <= is.length := by omega
  replace hz := hz.symm
  have hsl := sl_ins is b z hbz.1 hbz.2
  rw [hz] at hsl
  have hwi' : within ⟨es, is, cs⟩ b (is.length : Int) = (is.take z).drop b := by unfold within; rw [<- hz]; rfl
  have hv2 : entsOK ⟨es, is, cs⟩ 0 es = (!(((is.take z).drop b).any fun x => !insRight ⟨es, is, cs⟩ e b (is.length : Int) x) && entsOK ⟨es, is, cs⟩ (is.length : Int) (es.drop (i + 1))) := by
   rw [hent, hdrop]; simp only [entsOK]; rw [hend, hgood, Bool.true_and, hwi', List.not_any_eq_all_not]; simp
  have hcn : ∀ {s0 : AS} {bx : Nat}, s0.box bx = some [rowOf Ent.enc es, rowOf Ins.enc is, encs cs, .str e.name, .int .i64 e.arity, .int .i64 e.extra, .int .i64 e.slots, .int .i64 e.pos, .int .i64 b, .int .i64 (is.length : Int)] -> PureC Tryz.prog G 47 [rowOf Ins.enc ((is.take z).drop b), .fn 48 [.ptr bx 0]] s0 (.bool (((is.take z).drop b).any fun x => !insRight ⟨es, is, cs⟩ e b (is.length : Int) x)) := fun {s0 bx} h0 =>
   containsN_purec G (fun x => !insRight ⟨es, is, cs⟩ e b (is.length : Int) x) _ (by rw [List.length_drop, List.length_take]; omega) (fun x hx => notIns_pc hg h0 hc x (by have := bulkL_mem (f := Ins.bulk) (List.mem_of_mem_take (List.mem_of_mem_drop hx)); omega))
  generalize (((is.take z).drop b).any fun x => !insRight ⟨es, is, cs⟩ e b (is.length : Int) x) = r at *
  skip
  clear hg hc hli hbi hent hend hwi' hgood hb c0 c1 c2 c3 c4 c5 c6 c7 c8
  cases r with
  | true =>
   rw [hv2, Bool.not_true, Bool.false_and]
   clear hv2 hdrop hlt hi
   repeat' (first | refine xs ?_ ?_ <;> intros | (refine wn ?_; intro bx hbx; try simp only [fb] at hbx) | (refine PureC.use (hcn AS.set_get) (AS.le.refl _) ?_) | refine wj ?_ | simp -dsimp only [↓bp, bq, br, seval, tbCodW, l_max3, *] | refine wz ?_ | fail)
   all_goals first | rfl | exact finishW_some σ (hle0.trans (by repeat' first | exact lr _ | assumption | refine ls ?_ ?_ | refine lt ?_ ?_ | simp only [*]; done | simp only [fb, *, not_false_eq_true, and_self]; done | exact lf ‹_› (by simp only [*]))) ⟨rfl, rfl⟩
  | false =>
   rw [Bool.not_false, Bool.true_and] at hv2
   clear hdrop
   repeat' (first | refine xs ?_ ?_ <;> intros | (refine wn ?_; intro bx hbx; try simp only [fb] at hbx) | (refine PureC.use (hcn AS.set_get) (AS.le.refl _) ?_) | refine wj ?_ | simp -dsimp only [↓bp, bq, br, seval, tbCodW, l_max3, *] | refine wz ?_ | fail)
   all_goals refine ⟨es.length - (i + 1), by omega, i + 1, z, by omega, rfl, by first | (simp -dsimp only [↓bp, bq, br, seval, tbCodW, l_max3]; done) | (simp -dsimp only [↓bp, bq, br, seval, tbCodW, l_max3]; try rfl), by first | rw [hz] | (rw [hz]; first | (simp -dsimp only [↓bp, bq, br, seval, tbCodW, l_max3]; done) | (simp -dsimp only [↓bp, bq, br, seval, tbCodW, l_max3]; try rfl)), by repeat' first | exact lr _ | assumption | refine ls ?_ ?_ | refine lt ?_ ?_ | simp only [*]; done | simp only [fb, *, not_false_eq_true, and_self]; done | exact lf ‹_› (by simp only [*]), hbz.2, by first | rw [hz] | rw [hv2, hz]⟩
end Go.Proofs.YtjmdaeabllkgnaaGreatDoor
