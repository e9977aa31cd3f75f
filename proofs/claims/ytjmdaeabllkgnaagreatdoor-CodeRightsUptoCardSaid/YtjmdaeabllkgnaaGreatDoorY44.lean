/- CodeTells on abstract values: joined. -/
import Derived.Test.YtjmdaeabllkgnaaGreatDoorY25
import Derived.Test.YtjmdaeabllkgnaaGreatDoorY42
import Derived.Test.YtjmdaeabllkgnaaGreatDoorY43
import Derived.Test.YtjmdaeabllkgnaaGreatDoorY27
import Derived.Test.YtjmdaeabllkgnaaGreatDoorY41
set_option linter.unusedVariables false
set_option linter.unusedSimpArgs false
set_option maxRecDepth 20000
set_option linter.defProp false
namespace Go.Proofs.YtjmdaeabllkgnaaGreatDoor
open Go Go.Av
section
variable {G : Nat -> AV}
end
set_option maxRecDepth 20000
section
def tbCodN2 := And.intro (And.intro (And.intro (And.intro @tf3 (And.intro @tf4 @tf5)) (And.intro (And.intro @tf9 @tf37) (And.intro @tf39 @tf23))) (And.intro (And.intro @tf30 (And.intro @tf66 @tf21)) (And.intro (And.intro @tf53 @tf22) (And.intro @tf26 @tf24)))) (And.intro (And.intro (And.intro @isv_rowOf (And.intro @flat_rowOf @len_rowOf)) (And.intro (And.intro @ix_rowOf @isv_encs) (And.intro @flat_encs @len_encs))) (And.intro (And.intro (And.intro @Ins.flat_enc @Ins.isv_enc) (And.intro @Ins.fold_enc @Cod.flat_enc)) (And.intro (And.intro @Cod.isv_enc @Cod.fold_enc) (And.intro @ares_tmpc @ares_cellc))))
variable {G : Nat -> AV}
set_option maxHeartbeats 4000000 in
theorem next2_tri (hg : GlobC G) (c : Cod) (hc : c.bulk <= 1000000000) (pos : Int) (σ : AS) : Tri Tryz.prog G 11 [c.enc, .int .i64 pos] σ fun r σ' => WBuf 1 3 σ σ' r ((nexts c pos).map intA) /\ (nexts c pos = [] -> r = .nil) := by
 obtain ⟨es, is, cs⟩ := c
 have hli : is.length <= 1000000000 := by have := len_bulkL Ins.bulk_pos is; unfold Cod.bulk at hc; simp only at hc; omega
 have hce : (⟨es, is, cs⟩ : Cod).enc = .agg [rowOf Ent.enc es, rowOf Ins.enc is, encs cs] := rfl
 rw [hce]
 clear hce hc
 by_cases h0 : pos < 0
 ·have hv : nexts ⟨es, is, cs⟩ pos = [] := by unfold nexts; rw [if_neg (by omega)]
  rw [hv]
  have h0' := eq_true h0
  clear hv hg hli h0
  refine Tri.of_awp mixed Tryz.func11 rfl (by kernel_rfl) (by kernel_rfl) (by simp [Tryz.ntmps11]) Tryz.results11 ?_
  repeat' (first | refine xs ?_ ?_ <;> intros | (refine wn ?_; intro bx hbx; try simp only [fb] at hbx) | refine wj ?_ | simp -dsimp only [↓bp, bq, br, seval, tbCodN2, *] | refine wz ?_ | fail)
  all_goals exact finishW_some _ (AS.le.refl _) ⟨WBuf.nil (by repeat' first | exact lr _ | assumption | refine ls ?_ ?_ | refine lt ?_ ?_ | simp only [*]; done | simp only [fb, *, not_false_eq_true, and_self]; done | exact lf ‹_› (by simp only [*])), fun _ => rfl⟩
 have h0' := eq_false h0
 obtain ⟨p, hp⟩ := Int.eq_ofNat_of_zero_le (a := pos) (by omega)
 subst hp
 by_cases h1 : p < is.length
 case neg =>
  have h1' : ((is.length : Int) <= p) = True := eq_true (by omega)
  have hv : nexts ⟨es, is, cs⟩ p = [] := by
   unfold nexts; rw [if_pos (by omega)]; simp only [Int.toNat_natCast, List.getElem?_eq_none (Nat.le_of_not_lt h1)]
  rw [hv]
  clear hv hg hli h0 h1
  refine Tri.of_awp mixed Tryz.func11 rfl (by kernel_rfl) (by kernel_rfl) (by simp [Tryz.ntmps11]) Tryz.results11 ?_
  repeat' (first | refine xs ?_ ?_ <;> intros | (refine wn ?_; intro bx hbx; try simp only [fb] at hbx) | refine wj ?_ | simp -dsimp only [↓bp, bq, br, seval, tbCodN2, *] | refine wz ?_ | fail)
  all_goals exact finishW_some _ (AS.le.refl _) ⟨WBuf.nil (by repeat' first | exact lr _ | assumption | refine ls ?_ ?_ | refine lt ?_ ?_ | simp only [*]; done | simp only [fb, *, not_false_eq_true, and_self]; done | exact lf ‹_› (by simp only [*])), fun _ => rfl⟩
 have h1' : ((is.length : Int) <= p) = False := eq_false (by omega)
 obtain ⟨x, hk⟩ : ∃ x, is[p]? = some x := ⟨_, List.getElem?_eq_getElem h1⟩
 have hv : nexts ⟨es, is, cs⟩ p = nextsOf x p := by
  unfold nexts; rw [if_pos (by omega)]; simp only [Int.toNat_natCast, hk]
 rw [hv]
 have hwp : IntKind.i64.wrap ((p : Int) + 1) = (p : Int) + 1 := wrap_nat (by omega) (by omega)
 have ho := of_pure hg x.op
 have hfa := op_all (p := fun op => asciiF (shpOf op).fields) fields_ascii x.op
 have hlen : (shpOf x.op).fields.length <= 4 := by unfold asciiF at hfa; rw [Bool.and_eq_true, decide_eq_true_eq] at hfa; exact hfa.1
 have hct := containsC_pure hg.most (shpOf x.op).fields [108] (by omega)
 rw [hasL] at hct
 unfold shpA at ho
 unfold nextsOf
 generalize shpOf x.op = s at *
 obtain ⟨w, fs, nx⟩ := s
 simp only at ho hct ⊢
 generalize fs.contains 108 = r at *
 clear hv hg hfa hlen h0 h1 hli
 cases nx with
 | false =>
  rw [if_neg (by simp)]
  cases r with
  | false =>
   rw [if_neg (by simp)]
   refine Tri.of_awp mixed Tryz.func11 rfl (by kernel_rfl) (by kernel_rfl) (by simp [Tryz.ntmps11]) Tryz.results11 ?_
   repeat' (first | refine xs ?_ ?_ <;> intros | (refine wn ?_; intro bx hbx; try simp only [fb] at hbx) | refine wp ho ?_ | refine wp hct ?_ | ((refine Tri.mono (sortI_nil _) ?_; rintro r s ⟨rfl, rfl⟩)) | ((refine Tri.mono (compactI_nil _) ?_; rintro r s ⟨rfl, rfl⟩)) | ((refine Tri.mono (cloneI_nil _) ?_; rintro r s ⟨rfl, rfl⟩)) | refine wj ?_ | simp -dsimp only [↓bp, bq, br, seval, tbCodN2, *] | refine wz ?_ | fail)
   all_goals exact finishW_some _ (AS.le.refl _) ⟨WBuf.nil (by repeat' first | exact lr _ | assumption | refine ls ?_ ?_ | refine lt ?_ ?_ | simp only [*]; done | simp only [fb, *, not_false_eq_true, and_self]; done | exact lf ‹_› (by simp only [*])), fun _ => rfl⟩
  | true =>
   rw [if_pos rfl]
   refine Tri.of_awp mixed Tryz.func11 rfl (by kernel_rfl) (by kernel_rfl) (by simp [Tryz.ntmps11]) Tryz.results11 ?_
   repeat' (first | refine xs ?_ ?_ <;> intros | (refine wn ?_; intro bx hbx; try simp only [fb] at hbx) | refine wp ho ?_ | refine wp hct ?_ | ((refine app_wb (ys := [intA x.l]) (WBuf.nil (AS.le.refl _)) tfI (asrc_sl tfIE) (ints_ok [x.l]) (by simp) (fun v3 σ3 hA => ?_))) | refine wj ?_ | simp -dsimp only [↓bp, bq, br, seval, tbCodN2, *] | refine wz ?_ | fail)
   have hlc : (Lib.compact (sortL [x.l])).length <= 1 /\ (sortL [x.l]).length = 1 /\ Lib.compact (sortL [x.l]) ≠ [] := len_one _
   obtain ⟨rr, rfl, hbr, hn0, hn1⟩ := hA.buf.form (by simp)
   have hbr' : σ3.box rr = some (([x.l]).map intA) := by rw [hbr]; simp [intA, flat]
   have hcp : ∀ {s0 : AS}, s0.box rr = some ((sortL [x.l]).map intA) -> Tri Tryz.prog G 43 [.bs rr 1 1 3] s0 fun r σ' => r = .bs rr (Lib.compact (sortL [x.l])).length 1 3 /\ σ' = s0.setBox rr ((compL (sortL [x.l])).map intA) := fun {s0} h0 => by
    have := compactI_tri (G := G) (sortL [x.l]) (by omega) (by omega) h0
    rw [hlc.2.1] at this; exact this
   have hso : Tri Tryz.prog G 41 [.bs rr 1 1 3] σ3 fun r σ' => r = .tup [] /\ σ' = σ3.setBox rr ((sortL [x.l]).map intA) := sortI_tri (G := G) [x.l] (by simp) hbr'
   repeat' (first | refine xs ?_ ?_ <;> intros | (refine wn ?_; intro bx hbx; try simp only [fb] at hbx) | ((refine Tri.mono hso ?_; rintro _ _ ⟨rfl, rfl⟩)) | ((refine Tri.mono (hcp AS.set_get) ?_; rintro _ _ ⟨rfl, rfl⟩)) | ((refine Tri.mono (cloneI_tri (Lib.compact (sortL [x.l])) (List.replicate ((sortL [x.l]).length - (Lib.compact (sortL [x.l])).length) 0) hlc.2.2 (by rw [List.length_replicate]; omega) AS.set_get) ?_; rintro r5 s5 hM)) | refine wj ?_ | simp -dsimp only [↓bp, bq, br, seval, tbCodN2, *] | refine wz ?_ | fail)
   have hle5 : σ.le σ3 := AS.le.trans (by repeat' first | exact lr _ | assumption | refine ls ?_ ?_ | refine lt ?_ ?_ | simp only [*]; done | simp only [fb, *, not_false_eq_true, and_self]; done | exact lf ‹_› (by simp only [*])) hA.buf.le
   have hn5 : σ.box rr = none := by
    cases hx : σ.box rr with
    | none => rfl
    | some z => exact absurd hn0 (by rw [AS.le.box (σ := σ) (by repeat' first | exact lr _ | assumption | refine ls ?_ ?_ | refine lt ?_ ?_ | simp only [*]; done | simp only [fb, *, not_false_eq_true, and_self]; done | exact lf ‹_› (by simp only [*])) _ _ hx]; simp)
   have hW := wbuf_made ((hle5.setBox hn5 _).setBox hn5 _) hM
   rw [sorted_one] at hW
   exact finishW_some _ (AS.le.refl _) ⟨hW, fun h => by first | (simp at h; done) | ((repeat' split at h) <;> simp at h)⟩
 | true =>
  rw [if_pos rfl]
  cases r with
  | false =>
   rw [if_neg (by simp)]
   refine Tri.of_awp mixed Tryz.func11 rfl (by kernel_rfl) (by kernel_rfl) (by simp [Tryz.ntmps11]) Tryz.results11 ?_
   repeat' (first | refine xs ?_ ?_ <;> intros | (refine wn ?_; intro bx hbx; try simp only [fb] at hbx) | refine wp ho ?_ | refine wp hct ?_ | ((refine app_wb (ys := [intA ((p : Int) + 1)]) (WBuf.nil (AS.le.refl _)) tfI (asrc_sl tfIE) (ints_ok [(p : Int) + 1]) (by simp) (fun v3 σ3 hA => ?_))) | refine wj ?_ | simp -dsimp only [↓bp, bq, br, seval, tbCodN2, *] | refine wz ?_ | fail)
   rename_i b2 hf2
   have hb6 : σ3.box bx = some [.str w, .str fs, .bool true] := hA.buf.le.box _ _ AS.set_get
   have hb2 : σ3.box b2 = some [rowOf Ent.enc es, rowOf Ins.enc is, encs cs] := hA.buf.le.box _ _ (by simp [AS.setBox, hbx])
   repeat' (first | refine xs ?_ ?_ <;> intros | (refine wn ?_; intro bx hbx; try simp only [fb] at hbx) | refine wp hct ?_ | refine wj ?_ | simp -dsimp only [↓bp, bq, br, seval, tbCodN2, *] | refine wz ?_ | fail)
   have hlc : (Lib.compact (sortL [(p : Int) + 1])).length <= 1 /\ (sortL [(p : Int) + 1]).length = 1 /\ Lib.compact (sortL [(p : Int) + 1]) ≠ [] := len_one _
   obtain ⟨rr, rfl, hbr, hn0, hn1⟩ := hA.buf.form (by simp)
   have hbr' : σ3.box rr = some (([(p : Int) + 1]).map intA) := by rw [hbr]; simp [intA, flat]
   have hcp : ∀ {s0 : AS}, s0.box rr = some ((sortL [(p : Int) + 1]).map intA) -> Tri Tryz.prog G 43 [.bs rr 1 1 3] s0 fun r σ' => r = .bs rr (Lib.compact (sortL [(p : Int) + 1])).length 1 3 /\ σ' = s0.setBox rr ((compL (sortL [(p : Int) + 1])).map intA) := fun {s0} h0 => by
    have := compactI_tri (G := G) (sortL [(p : Int) + 1]) (by omega) (by omega) h0
    rw [hlc.2.1] at this; exact this
   have hso : Tri Tryz.prog G 41 [.bs rr 1 1 3] σ3 fun r σ' => r = .tup [] /\ σ' = σ3.setBox rr ((sortL [(p : Int) + 1]).map intA) := sortI_tri (G := G) [(p : Int) + 1] (by simp) hbr'
   repeat' (first | refine xs ?_ ?_ <;> intros | (refine wn ?_; intro bx hbx; try simp only [fb] at hbx) | ((refine Tri.mono hso ?_; rintro _ _ ⟨rfl, rfl⟩)) | ((refine Tri.mono (hcp AS.set_get) ?_; rintro _ _ ⟨rfl, rfl⟩)) | ((refine Tri.mono (cloneI_tri (Lib.compact (sortL [(p : Int) + 1])) (List.replicate ((sortL [(p : Int) + 1]).length - (Lib.compact (sortL [(p : Int) + 1])).length) 0) hlc.2.2 (by rw [List.length_replicate]; omega) AS.set_get) ?_; rintro r5 s5 hM)) | refine wj ?_ | simp -dsimp only [↓bp, bq, br, seval, tbCodN2, *] | refine wz ?_ | fail)
   have hle5 : σ.le σ3 := AS.le.trans (by repeat' first | exact lr _ | assumption | refine ls ?_ ?_ | refine lt ?_ ?_ | simp only [*]; done | simp only [fb, *, not_false_eq_true, and_self]; done | exact lf ‹_› (by simp only [*])) hA.buf.le
   have hn5 : σ.box rr = none := by
    cases hx : σ.box rr with
    | none => rfl
    | some z => exact absurd hn0 (by rw [AS.le.box (σ := σ) (by repeat' first | exact lr _ | assumption | refine ls ?_ ?_ | refine lt ?_ ?_ | simp only [*]; done | simp only [fb, *, not_false_eq_true, and_self]; done | exact lf ‹_› (by simp only [*])) _ _ hx]; simp)
   have hW := wbuf_made ((hle5.setBox hn5 _).setBox hn5 _) hM
   rw [sorted_one] at hW
   exact finishW_some _ (AS.le.refl _) ⟨hW, fun h => by first | (simp at h; done) | ((repeat' split at h) <;> simp at h)⟩
  | true =>
   rw [if_pos rfl]
   refine Tri.of_awp mixed Tryz.func11 rfl (by kernel_rfl) (by kernel_rfl) (by simp [Tryz.ntmps11]) Tryz.results11 ?_
   repeat' (first | refine xs ?_ ?_ <;> intros | (refine wn ?_; intro bx hbx; try simp only [fb] at hbx) | refine wp ho ?_ | refine wp hct ?_ | ((refine app_wb (ys := [intA ((p : Int) + 1)]) (WBuf.nil (AS.le.refl _)) tfI (asrc_sl tfIE) (ints_ok [(p : Int) + 1]) (by simp) (fun v3 σ3 hA => ?_))) | refine wj ?_ | simp -dsimp only [↓bp, bq, br, seval, tbCodN2, *] | refine wz ?_ | fail)
   rename_i b2 hf2
   have hb6 : σ3.box bx = some [.str w, .str fs, .bool true] := hA.buf.le.box _ _ AS.set_get
   have hb2 : σ3.box b2 = some [rowOf Ent.enc es, rowOf Ins.enc is, encs cs] := hA.buf.le.box _ _ (by simp [AS.setBox, hbx])
   have hB := hA.buf
   repeat' (first | refine xs ?_ ?_ <;> intros | (refine wn ?_; intro bx hbx; try simp only [fb] at hbx) | refine wp hct ?_ | ((refine app_wb (ys := [intA x.l]) (hB) tfI (asrc_sl tfIE) (ints_ok [x.l]) (by simp) (fun v4 σ4 hA4 => ?_))) | refine wj ?_ | simp -dsimp only [↓bp, bq, br, seval, tbCodN2, *] | refine wz ?_ | fail)
   have hlc : (Lib.compact (sortL [(p : Int) + 1, x.l])).length <= 2 /\ (sortL [(p : Int) + 1, x.l]).length = 2 /\ Lib.compact (sortL [(p : Int) + 1, x.l]) ≠ [] := len_two _ _
   obtain ⟨rr, rfl, hbr, hn0, hn1⟩ := hA4.buf.form (by simp)
   have hbr' : σ4.box rr = some (([(p : Int) + 1, x.l]).map intA) := by rw [hbr]; simp [intA, flat]
   have hcp : ∀ {s0 : AS}, s0.box rr = some ((sortL [(p : Int) + 1, x.l]).map intA) -> Tri Tryz.prog G 43 [.bs rr 2 1 3] s0 fun r σ' => r = .bs rr (Lib.compact (sortL [(p : Int) + 1, x.l])).length 1 3 /\ σ' = s0.setBox rr ((compL (sortL [(p : Int) + 1, x.l])).map intA) := fun {s0} h0 => by
    have := compactI_tri (G := G) (sortL [(p : Int) + 1, x.l]) (by omega) (by omega) h0
    rw [hlc.2.1] at this; exact this
   have hso : Tri Tryz.prog G 41 [.bs rr 2 1 3] σ4 fun r σ' => r = .tup [] /\ σ' = σ4.setBox rr ((sortL [(p : Int) + 1, x.l]).map intA) := sortI_tri (G := G) [(p : Int) + 1, x.l] (by simp) hbr'
   repeat' (first | refine xs ?_ ?_ <;> intros | (refine wn ?_; intro bx hbx; try simp only [fb] at hbx) | ((refine Tri.mono hso ?_; rintro _ _ ⟨rfl, rfl⟩)) | ((refine Tri.mono (hcp AS.set_get) ?_; rintro _ _ ⟨rfl, rfl⟩)) | ((refine Tri.mono (cloneI_tri (Lib.compact (sortL [(p : Int) + 1, x.l])) (List.replicate ((sortL [(p : Int) + 1, x.l]).length - (Lib.compact (sortL [(p : Int) + 1, x.l])).length) 0) hlc.2.2 (by rw [List.length_replicate]; omega) AS.set_get) ?_; rintro r5 s5 hM)) | refine wj ?_ | simp -dsimp only [↓bp, bq, br, seval, tbCodN2, *] | refine wz ?_ | fail)
   have hle5 : σ.le σ4 := AS.le.trans (by repeat' first | exact lr _ | assumption | refine ls ?_ ?_ | refine lt ?_ ?_ | simp only [*]; done | simp only [fb, *, not_false_eq_true, and_self]; done | exact lf ‹_› (by simp only [*])) hA4.buf.le
   have hn5 : σ.box rr = none := by
    cases hx : σ.box rr with
    | none => rfl
    | some z => exact absurd hn0 (by rw [AS.le.box (σ := σ) (by repeat' first | exact lr _ | assumption | refine ls ?_ ?_ | refine lt ?_ ?_ | simp only [*]; done | simp only [fb, *, not_false_eq_true, and_self]; done | exact lf ‹_› (by simp only [*])) _ _ hx]; simp)
   have hW := wbuf_made ((hle5.setBox hn5 _).setBox hn5 _) hM
   rw [sorted_two] at hW
   exact finishW_some _ (AS.le.refl _) ⟨hW, fun h => by first | (simp at h; done) | ((repeat' split at h) <;> simp at h)⟩
theorem next_nil (hg : GlobC G) (c : Cod) (hc : c.bulk <= 1000000000) (pos : Int) (h : nexts c pos = []) : Pure Tryz.prog G 11 [c.enc, .int .i64 pos] .nil := fun σ =>
 Tri.back (Q := fun r => r = .nil) ((next2_tri hg c hc pos σ).mono fun r s hr => ⟨hr.2 h, hr.1.le⟩)
theorem next_row (hg : GlobC G) (c : Cod) (hc : c.bulk <= 1000000000) (pos : Int) (h : nexts c pos ≠ []) (σ : AS) : Tri Tryz.prog G 11 [c.enc, .int .i64 pos] σ fun r σ' => MadeRow (nexts c pos).length 1 3 ((nexts c pos).map intA) σ r σ' :=
 (next2_tri hg c hc pos σ).mono fun r s hr => by
   obtain ⟨b, e1, e2, e3, e4⟩ := hr.1.form (fun e => h (List.map_eq_nil_iff.1 e))
   rw [List.length_map] at e1
   refine ⟨b, e1, ?_, hr.1.le, e3, e4⟩
   rw [e2]
   exact congrArg some (ints_cells _)
end
end Go.Proofs.YtjmdaeabllkgnaaGreatDoor
