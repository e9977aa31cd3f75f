/- Code: the kit's Same and Copy. -/
import Derived.Test.YtjmdaeabllkgnaaGreatDoorY19
import Derived.Test.YtjmdaeabllkgnaaGreatDoorY22
import Derived.Test.YtjmdaeabllkgnaaGreatDoorY26
import Derived.Test.YtjmdaeabllkgnaaGreatDoorY27
import Derived.Test.YtjmdaeabllkgnaaGreatDoorY30
import Derived.Test.YtjmdaeabllkgnaaGreatDoorY11
import Derived.Test.YtjmdaeabllkgnaaGreatDoorChecked
import Derived.KernelRfl
set_option linter.unusedVariables false
set_option linter.unusedSimpArgs false
set_option maxRecDepth 20000
set_option linter.defProp false
namespace Go.Proofs.YtjmdaeabllkgnaaGreatDoor
open Go Go.Av
def tbCodeK := And.intro (And.intro (And.intro (And.intro (And.intro @tf53 @tf22) (And.intro @tf9 @tf3)) (And.intro (And.intro @tf39 @tf23) (And.intro @tf5 (And.intro @tf30 @tf26)))) (And.intro (And.intro (And.intro @tf214 @tf24) (And.intro @tf4 (And.intro @tf58 @tf56))) (And.intro (And.intro @tf169 @tf37) (And.intro @isv_rowOf (And.intro @flat_rowOf @len_rowOf))))) (And.intro (And.intro (And.intro (And.intro @ix_rowOf @Term.flat_enc) (And.intro @Term.isv_enc (And.intro @Term.fold_enc @isv_encs))) (And.intro (And.intro @flat_encs @len_encs) (And.intro @ix_encs (And.intro @isv_lims @flat_lims)))) (And.intro (And.intro (And.intro @len_lims @Ent.flat_enc) (And.intro @Ent.isv_enc (And.intro @Ent.fold_enc @Ins.flat_enc))) (And.intro (And.intro @Ins.isv_enc @Ins.fold_enc) (And.intro @Cod.flat_enc (And.intro @Cod.isv_enc @Cod.fold_enc)))))
variable (G : Nat -> AV)
theorem eqK_Ent : eqK Tryz.prog 53 = some [.str, .int .i64, .int .i64, .int .i64, .int .i64] := by decide +kernel
theorem neqEnt (x y : Ent) : abin Tryz.prog .neq 53 x.enc y.enc = some (.bool (decide (¬ x = y))) := by
 have e : fldEq [.str, .int .i64, .int .i64, .int .i64, .int .i64] [.str x.name, .int .i64 x.arity, .int .i64 x.extra, .int .i64 x.slots, .int .i64 x.pos] [.str y.name, .int .i64 y.arity, .int .i64 y.extra, .int .i64 y.slots, .int .i64 y.pos] = some (decide (x.name = y.name) && (decide (x.arity = y.arity) && (decide (x.extra = y.extra) && (decide (x.slots = y.slots) && (decide (x.pos = y.pos) && true))))) := by
  rw [fe_str, fe_int, fe_int, fe_int, fe_int, fe_nil]; rfl
 have h : (decide (x.name = y.name) && (decide (x.arity = y.arity) && (decide (x.extra = y.extra) && (decide (x.slots = y.slots) && (decide (x.pos = y.pos) && true))))) = decide (x = y) := by rw [Ent.eq_parts]; simp only [Bool.and_true, Bool.and_assoc]
 unfold Ent.enc
 rw [abin_agg, eqK_Ent]
 simp only [Option.bind_some, e, h]
 simp [aeq]
set_option maxHeartbeats 1000000 in
theorem sameEnts_pure (l r : List Ent) (hl : l.length <= 1000000000) (hr : r.length <= 1000000000) : Pure Tryz.prog G 92 [rowOf Ent.enc l, rowOf Ent.enc r] (.bool (decide (l = r))) := by
 intro σ
 refine Tri.of_awp mixed Tryz.func92 rfl (by kernel_rfl) (by kernel_rfl) (by simp [Tryz.ntmps92]) Tryz.results92 ?_
 repeat' (first | refine xs ?_ ?_ <;> intros | (refine wn ?_; intro bx hbx; try simp only [fb] at hbx) | refine wj ?_ | simp -dsimp only [↓bp, bq, br, seval, tbCodeK, *] | refine wz ?_ | fail)
 rotate_right
 ·skip
  refine loop_keep mixed (fun n e => ∃ i : Nat, i <= (l).length /\ n = (l).length - i /\ e 5 = .int .i64 i /\ l.take i = r.take i) (l).length
    ⟨0, by omega, by omega, by simp -dsimp only [↓bp, bq, br, seval, tbCodeK]; first | done | rfl, rfl⟩ ?_
  rintro n v ⟨i, hi, rfl, h5, htk⟩
  simp -dsimp only [↓bp, bq, br, seval, tbCodeK] at h5
  simp -dsimp only [↓bp, bq, br, seval, tbCodeK, h5]
  refine condW_dec (fun hlt => ?_) (fun hge => ?_)
  ·obtain ⟨x, hx⟩ : ∃ x, l[i]? = some x := ⟨_, List.getElem?_eq_getElem (by omega)⟩
   obtain ⟨y, hy⟩ : ∃ y, r[i]? = some y := ⟨_, List.getElem?_eq_getElem (by omega)⟩
   have hq := neqEnt x y
   clear hi hlt
   repeat' (first | refine xs ?_ ?_ <;> intros | (refine wn ?_; intro bx hbx; try simp only [fb] at hbx) | refine wj ?_ | simp -dsimp only [↓bp, bq, br, seval, tbCodeK, hq, *] | refine wz ?_ | fail)
   ·have hxy : l ≠ r := fun e => by subst e; rw [hx] at hy; simp only [Option.some.injEq] at hy; subst hy; simp_all
    simp [hxy]
   ·have hxy : x = y := by simp_all
    subst hxy
    have hlt := (List.getElem?_eq_some_iff.1 hx).1
    exact ⟨l.length - (i + 1), by omega, i + 1, by omega, rfl, by rw [wrap_nat (by omega) (by omega)]; rfl, take_next htk hx hy⟩
  ·have : i = l.length := by omega
   subst this
   have hlr : l = r := take_all (by omega) htk
   clear hi hge
   repeat' (first | refine xs ?_ ?_ <;> intros | (refine wn ?_; intro bx hbx; try simp only [fb] at hbx) | refine wj ?_ | simp -dsimp only [↓bp, bq, br, seval, tbCodeK, *] | refine wz ?_ | fail)
   all_goals simp [hlr]
 ·have : l ≠ r := fun e => by subst e; simp_all
  simp [this]
set_option maxHeartbeats 1000000 in
theorem sameInts_pure (l r : List Int) (hl : l.length <= 1000000000) (hr : r.length <= 1000000000) : Pure Tryz.prog G 14 [rowOf intA l, rowOf intA r] (.bool (decide (l = r))) := by
 intro σ
 refine Tri.of_awp mixed Tryz.func14 rfl (by kernel_rfl) (by kernel_rfl) (by simp [Tryz.ntmps14]) Tryz.results14 ?_
 repeat' (first | refine xs ?_ ?_ <;> intros | (refine wn ?_; intro bx hbx; try simp only [fb] at hbx) | refine wj ?_ | simp -dsimp only [↓bp, bq, br, seval, tbCodeK, *] | refine wz ?_ | fail)
 rotate_right
 ·skip
  refine loop_keep mixed (fun n e => ∃ i : Nat, i <= (l).length /\ n = (l).length - i /\ e 5 = .int .i64 i /\ l.take i = r.take i) (l).length
    ⟨0, by omega, by omega, by simp -dsimp only [↓bp, bq, br, seval, tbCodeK]; first | done | rfl, rfl⟩ ?_
  rintro n v ⟨i, hi, rfl, h5, htk⟩
  simp -dsimp only [↓bp, bq, br, seval, tbCodeK] at h5
  simp -dsimp only [↓bp, bq, br, seval, tbCodeK, h5]
  refine condW_dec (fun hlt => ?_) (fun hge => ?_)
  ·obtain ⟨x, hx⟩ : ∃ x, l[i]? = some x := ⟨_, List.getElem?_eq_getElem (by omega)⟩
   obtain ⟨y, hy⟩ : ∃ y, r[i]? = some y := ⟨_, List.getElem?_eq_getElem (by omega)⟩
   clear hi hlt
   repeat' (first | refine xs ?_ ?_ <;> intros | (refine wn ?_; intro bx hbx; try simp only [fb] at hbx) | refine wj ?_ | simp -dsimp only [↓bp, bq, br, seval, tbCodeK, intA, *] | refine wz ?_ | fail)
   ·have hxy : l ≠ r := fun e => by subst e; rw [hx] at hy; simp only [Option.some.injEq] at hy; subst hy; simp_all
    simp [hxy]
   ·have hxy : x = y := by simp_all
    subst hxy
    have hlt := (List.getElem?_eq_some_iff.1 hx).1
    exact ⟨l.length - (i + 1), by omega, i + 1, by omega, rfl, by rw [wrap_nat (by omega) (by omega)]; rfl, take_next htk hx hy⟩
  ·have : i = l.length := by omega
   subst this
   have hlr : l = r := take_all (by omega) htk
   clear hi hge
   repeat' (first | refine xs ?_ ?_ <;> intros | (refine wn ?_; intro bx hbx; try simp only [fb] at hbx) | refine wj ?_ | simp -dsimp only [↓bp, bq, br, seval, tbCodeK, *] | refine wz ?_ | fail)
   all_goals simp [hlr]
 ·have : l ≠ r := fun e => by subst e; simp_all
  simp [this]
set_option maxHeartbeats 1000000 in
theorem sameIns_pure (x y : Ins) (hx : x.bulk <= 1000000000) (hy : y.bulk <= 1000000000) : Pure Tryz.prog G 34 [x.enc, y.enc] (.bool (decide (x = y))) := by
 have h_slots := sameInts_pure G x.slots y.slots (by unfold Ins.bulk at hx; omega) (by unfold Ins.bulk at hy; omega)
 rw [Ins.eq_parts]
 clear hx hy
 intro σ
 refine Tri.of_awp mixed Tryz.func34 rfl (by kernel_rfl) (by kernel_rfl) (by simp [Tryz.ntmps34]) Tryz.results34 ?_
 repeat' (first | refine xs ?_ ?_ <;> intros | (refine wn ?_; intro bx hbx; try simp only [fb] at hbx) | refine wp h_slots ?_ | refine wj ?_ | simp -dsimp only [↓bp, bq, br, seval, tbCodeK, *] | refine wz ?_ | fail)
 all_goals (first | (simp only [decide_true, decide_false, *, Bool.and_true, Bool.true_and, Bool.and_false, Bool.false_and, Bool.or_true, Bool.true_or, Bool.or_false, Bool.false_or, Bool.not_true, Bool.not_false, if_true, if_false, Bool.and_self, Bool.or_self]; done) | (simp [decide_true, decide_false, *]; done) | (simp_all [decide_true, decide_false]; done))
set_option maxHeartbeats 1000000 in
theorem sameInss_pure (l r : List Ins) (hl : l.length <= 1000000000) (hr : r.length <= 1000000000) (hf : ∀ x, x ∈ l -> ∀ y, y ∈ r -> Pure Tryz.prog G 34 [x.enc, y.enc] (.bool (decide (x = y)))) : Pure Tryz.prog G 93 [rowOf Ins.enc l, rowOf Ins.enc r] (.bool (decide (l = r))) := by
 intro σ
 refine Tri.of_awp mixed Tryz.func93 rfl (by kernel_rfl) (by kernel_rfl) (by simp [Tryz.ntmps93]) Tryz.results93 ?_
 repeat' (first | refine xs ?_ ?_ <;> intros | (refine wn ?_; intro bx hbx; try simp only [fb] at hbx) | refine wj ?_ | simp -dsimp only [↓bp, bq, br, seval, tbCodeK, *] | refine wz ?_ | fail)
 rotate_right
 ·skip
  refine loop_keep mixed (fun n e => ∃ i : Nat, i <= (l).length /\ n = (l).length - i /\ e 5 = .int .i64 i /\ l.take i = r.take i) (l).length
    ⟨0, by omega, by omega, by simp -dsimp only [↓bp, bq, br, seval, tbCodeK]; first | done | rfl, rfl⟩ ?_
  rintro n v ⟨i, hi, rfl, h5, htk⟩
  simp -dsimp only [↓bp, bq, br, seval, tbCodeK] at h5
  simp -dsimp only [↓bp, bq, br, seval, tbCodeK, h5]
  refine condW_dec (fun hlt => ?_) (fun hge => ?_)
  ·obtain ⟨x, hx⟩ : ∃ x, l[i]? = some x := ⟨_, List.getElem?_eq_getElem (by omega)⟩
   obtain ⟨y, hy⟩ : ∃ y, r[i]? = some y := ⟨_, List.getElem?_eq_getElem (by omega)⟩
   have hq := hf x (List.mem_of_getElem? hx) y (List.mem_of_getElem? hy)
   have hwi : IntKind.i64.wrap ((i : Int) + 1) = ((i + 1 : Nat) : Int) := by rw [wrap_nat (by omega) (by omega)]; rfl
   clear hi
   by_cases hxy : x = y
   ·rw [decide_eq_true hxy] at hq
    subst hxy
    have hn := take_next htk hx hy
    clear htk hlt hf
    repeat' (first | refine xs ?_ ?_ <;> intros | (refine wn ?_; intro bx hbx; try simp only [fb] at hbx) | refine wp hq ?_ | refine wj ?_ | simp -dsimp only [↓bp, bq, br, seval, tbCodeK, *] | refine wz ?_ | fail)
    all_goals (have hlt := (List.getElem?_eq_some_iff.1 hx).1)
    all_goals exact ⟨l.length - (i + 1), by omega, i + 1, by omega, rfl, rfl, hn⟩
   ·rw [decide_eq_false hxy] at hq
    have hne : ¬ l = r := fun e => by subst e; rw [hx] at hy; simp only [Option.some.injEq] at hy; exact hxy hy
    rw [decide_eq_false hne]
    clear hxy htk hne hlt hf
    repeat' (first | refine xs ?_ ?_ <;> intros | (refine wn ?_; intro bx hbx; try simp only [fb] at hbx) | refine wp hq ?_ | refine wj ?_ | simp -dsimp only [↓bp, bq, br, seval, tbCodeK, *] | refine wz ?_ | fail)
    all_goals rfl
  ·have : i = l.length := by omega
   subst this
   have hlr : l = r := take_all (by omega) htk
   clear hi hge
   repeat' (first | refine xs ?_ ?_ <;> intros | (refine wn ?_; intro bx hbx; try simp only [fb] at hbx) | refine wj ?_ | simp -dsimp only [↓bp, bq, br, seval, tbCodeK, *] | refine wz ?_ | fail)
   all_goals simp [hlr]
 ·have : l ≠ r := fun e => by subst e; simp_all
  simp [this]
set_option maxHeartbeats 1000000 in
theorem sameCod_pure (x y : Cod) (hx : x.bulk <= 1000000000) (hy : y.bulk <= 1000000000) : Pure Tryz.prog G 54 [x.enc, y.enc] (.bool (decide (x = y))) := by
 have h_entries := sameEnts_pure G x.entries y.entries (by have := len_bulkL Ent.bulk_pos x.entries; unfold Cod.bulk at hx; omega) (by have := len_bulkL Ent.bulk_pos y.entries; unfold Cod.bulk at hy; omega)
 have h_instrs := sameInss_pure G x.instrs y.instrs (by have := len_bulkL Ins.bulk_pos x.instrs; unfold Cod.bulk at hx; omega) (by have := len_bulkL Ins.bulk_pos y.instrs; unfold Cod.bulk at hy; omega) (fun u hu v hv => sameIns_pure G u v (by have := bulkL_mem (f := Ins.bulk) hu; unfold Cod.bulk at hx; omega) (by have := bulkL_mem (f := Ins.bulk) hv; unfold Cod.bulk at hy; omega))
 have h_consts := samess_pure G x.consts y.consts (by have := len_le_bulks x.consts; unfold Cod.bulk at hx; omega) (by have := len_le_bulks y.consts; unfold Cod.bulk at hy; omega) (fun u hu v hv => same_pure G u v (by have := bulk_mem hu; unfold Cod.bulk at hx; omega) (by have := bulk_mem hv; unfold Cod.bulk at hy; omega))
 simp only [same_dec, sames_deq] at *
 rw [Cod.eq_parts]
 clear hx hy
 intro σ
 refine Tri.of_awp mixed Tryz.func54 rfl (by kernel_rfl) (by kernel_rfl) (by simp [Tryz.ntmps54]) Tryz.results54 ?_
 repeat' (first | refine xs ?_ ?_ <;> intros | (refine wn ?_; intro bx hbx; try simp only [fb] at hbx) | refine wp h_entries ?_ | refine wp h_instrs ?_ | refine wp h_consts ?_ | refine wj ?_ | simp -dsimp only [↓bp, bq, br, seval, tbCodeK, *] | refine wz ?_ | fail)
 all_goals (first | (simp only [decide_true, decide_false, *, Bool.and_true, Bool.true_and, Bool.and_false, Bool.false_and, Bool.or_true, Bool.true_or, Bool.or_false, Bool.false_or, Bool.not_true, Bool.not_false, if_true, if_false, Bool.and_self, Bool.or_self]; done) | (simp [decide_true, decide_false, *]; done) | (simp_all [decide_true, decide_false]; done))
end Go.Proofs.YtjmdaeabllkgnaaGreatDoor
namespace Go.Av
open Go Go.RowKit
theorem meet_one {P : Program} (hm : P.follows .mixedOrders = true) {G : Nat -> AV} {c : Code} {Q : Exit -> Env -> AS -> Prop} {e : Env} {σ : AS} (W : List Nat) (hW : ∀ t, t ∈ cWrites c -> t ∈ W) (I : Env -> AS -> Prop)
  (h1 : awp P G (adraw P G) c (fun x e' σ' => match x with | .normal => I e' σ' | x => Q x e' σ') e σ) (h2 : ∀ v σ', I (mrg W v e) σ' -> Q .normal (mrg W v e) σ') : awp P G (adraw P G) c Q e σ := by
 refine awp_mono (drawOK hm) c e σ (fun x e' s ⟨hx, hf⟩ => ?_) (awp_frame (drawOK hm) c e σ h1)
 cases x with
 | normal =>
  have : e' = mrg W e' e := by
   funext t
   unfold mrg
   by_cases ht : W.contains t = true
   ·rw [if_pos ht]
   ·rw [if_neg ht]
    exact hf t fun h => ht (by simpa using hW t h)
  rw [this]
  exact h2 e' s (by rw [<- this]; exact hx)
 | _ => exact hx
theorem cond_meet {P : Program} (hm : P.follows .mixedOrders = true) {G : Nat -> AV} {c : AV} {a b : Code} {Q : Exit -> Env -> AS -> Prop} {e : Env} {σ : AS} {d : Dum (awp P G (adraw P G) a Q e σ)} {d' : Dum (awp P G (adraw P G) b Q e σ)} (I : Env -> AS -> Prop)
  (h1 : condW c (awp P G (adraw P G) a (fun x e' σ' => match x with | .normal => I e' σ' | x => Q x e' σ') e σ) (awp P G (adraw P G) b (fun x e' σ' => match x with | .normal => I e' σ' | x => Q x e' σ') e σ) ⟨⟩ ⟨⟩)
  (h2 : ∀ v σ', I (mrg (cWrites a ++ cWrites b) v e) σ' -> Q .normal (mrg (cWrites a ++ cWrites b) v e) σ') : condW c (awp P G (adraw P G) a Q e σ) (awp P G (adraw P G) b Q e σ) d d' := by
 obtain ⟨t, ht, h3, h4⟩ := h1
 exact ⟨t, ht, fun h => meet_one hm _ (fun t h => List.mem_append_left _ h) I (h3 h) h2, fun h => meet_one hm _ (fun t h => List.mem_append_right _ h) I (h4 h) h2⟩
theorem Tri.ghost {P : Program} {G : Nat -> AV} {f : FuncId} {args : List AV} {σ σ' : AS} {Q : AV -> AS -> Prop} (hg : ∀ K w, Rel G K σ w -> ∃ K', K.le K' /\ Rel G K' σ' w) (h : Tri P G f args σ' Q) : Tri P G f args σ Q :=
 ⟨h.1, fun K w vals hr hv => by
   obtain ⟨K', h1, h2⟩ := hg K w hr
   exact (h.2 K' w vals h2 (VRl.mono h1 hv)).mono fun e w' ⟨v, r, s, K2, he, hQ, a, b, c⟩ => ⟨v, r, s, K2, he, hQ, a, b, h1.trans c⟩⟩
theorem Rel.freezeIn {G : Nat -> AV} {K : Ctx} {σ : AS} {w : World} (hr : Rel G K σ w) {b n s c : Nat} {xs cs ds ds' : List AV} (hb : σ.box b = some cs) (hi : Items n s xs cs) (hcb : c ≠ b) (hc : σ.box c = some ds) (hl : ds.length = ds'.length) (h1 : ∀ x, x ∈ ds' -> one x = true)
  (hf : ∀ j (g1 : j < ds.length) (g2 : j < ds'.length), Frz b n s (.sl (.own b) xs []) ds[j] ds'[j]) (hh : ∃ j, ∃ h : j < ds.length, Has b n s ds[j]) : ∃ K', K.le K' /\ Rel G K' ((σ.froze b n s).setBox c ds') w := by
 obtain ⟨q1, q2, q3, q4, q5, d, E, q6, q7, q8⟩ := hr.box c ds hc
 obtain ⟨j, hj, hh⟩ := hh
 obtain ⟨cap, F, k1, k2, k3⟩ := hh K _ (q8 j hj)
 obtain ⟨K', g1, g2, g3⟩ := freeze_world hr hb hi k1 k2 k3
 have hc' : (σ.froze b n s).box c = some ds := by
  show (if c = b then none else σ.box c) = some ds
  rw [if_neg hcb]; exact hc
 obtain ⟨p1, p2, p3, p4, p5, d', E', p6, p7, p8⟩ := g2.box c ds hc'
 rw [q6] at p6
 simp only [Option.some.injEq, Obj.cells.injEq] at p6
 obtain ⟨rfl, rfl, _⟩ := p6
 refine ⟨K', g1, g2.imm, g2.row, fun i zs hz => ?_, g2.tip, g2.ty, g2.glob, g2.below, g2.bs⟩
 have hz' : (if i = c then some ds' else (σ.froze b n s).box i) = some zs := hz
 split at hz'
 ·rename_i e
  subst e
  cases hz'
  exact ⟨p1, p2, p3, p4, h1, d, E, q6, by omega, fun j hj => g3 _ _ _ (hf j (by omega) hj) (q8 j (by omega))⟩
 ·exact g2.box i zs hz'
end Go.Av
set_option maxRecDepth 20000
namespace Go.Proofs.YtjmdaeabllkgnaaGreatDoor
open Go Go.Av
def tbAwkC := And.intro (And.intro (And.intro (And.intro @tf3 (And.intro @tf4 @tf5)) (And.intro @tf9 (And.intro @tf37 @tf39))) (And.intro (And.intro @tf23 (And.intro @tf30 @tf53)) (And.intro (And.intro @tf22 @tf26) (And.intro @tf24 @isv_rowOf)))) (And.intro (And.intro (And.intro @flat_rowOf (And.intro @len_rowOf @ix_rowOf)) (And.intro (And.intro @isv_encs @flat_encs) (And.intro @len_encs @Ins.flat_enc))) (And.intro (And.intro @Ins.isv_enc (And.intro @Ent.flat_enc @Ent.isv_enc)) (And.intro (And.intro @Cod.flat_enc @Cod.isv_enc) (And.intro @ares_tmpc @ares_cellc))))
variable {G : Nat -> AV}
theorem next_pure (hg : GlobC G) (c : Cod) (hc : c.bulk <= 1000000000) (pos : Int) : Pure Tryz.prog G 11 [c.enc, .int .i64 pos] (rowOf intA (nexts c pos)) :=
 Pure.of_le fun σ => (next_tri hg c hc pos σ).wbuf
def iCall : Ins := ⟨6, 3, 0, 0, 2, 0, [], [0, 1]⟩
def iSame : Ins := ⟨16, 0, 1, 4, 0, 0, [], []⟩
def iCons : Ins := ⟨14, 0, 0, 0, 0, 9, [], []⟩
def iJump : Ins := ⟨12, 0, 0, 0, 0, 2, [], []⟩
def iNone : Ins := ⟨0, 0, 0, 0, 0, 0, [], []⟩
def exCode : Cod := ⟨[], [iJump, iNone, iNone, iNone, iNone, iCons], []⟩
def insN (o l : Int) : AV := .agg [.int .u8 o, .int .i64 0, .int .i64 0, .int .i64 0, .int .i64 0, .int .i64 l, .str [], .nil]
theorem le_full1 (l : List Int) : Le (.sl .full (l.map intA) []) (rowOf intA l) := Le.gh
theorem insN_le (op : UInt8) (l : Int) : LeE (insN op.toNat l) (⟨op, 0, 0, 0, 0, l, [], []⟩ : Ins).enc := by
 refine LeE.agg (.cons (Le.refl _) (.cons (Le.refl _) (.cons (Le.refl _) (.cons (Le.refl _) (.cons (Le.refl _) (.cons (Le.refl _) (.cons (Le.refl _) (.cons Le.nil .nil)))))))) ?_
 intro d hd
 simp only [List.mem_cons, List.not_mem_nil, or_false] at hd
 rcases hd with rfl | rfl | rfl | rfl | rfl | rfl | rfl | rfl <;> rfl
def exRow : List AV := [insN 12 2, insN 0 0, insN 0 0, insN 0 0, insN 0 0, insN 14 9]
theorem exRow_le {b : Nat} : Le (.agg [.nil, .sl (.own b) exRow [], .nil]) exCode.enc := by
 refine Le.agg (.cons Le.nil (.cons (Le.sl ?_) (.cons Le.nil .nil))) ?_
 ·exact .cons (insN_le 12 2) (.cons (insN_le 0 0) (.cons (insN_le 0 0) (.cons (insN_le 0 0) (.cons (insN_le 0 0) (.cons (insN_le 14 9) .nil)))))
 ·intro d hd
  simp only [List.mem_cons, List.not_mem_nil, or_false] at hd
  rcases hd with rfl | rfl | rfl <;> rfl
theorem call_le : Le (.agg [.int .u8 6, .int .i64 3, .int .i64 0, .int .i64 0, .int .i64 2, .int .i64 0, .str [], .sl .full [.int .i64 0, .int .i64 1] []]) iCall.enc := by
 refine Le.agg (.cons (Le.refl _) (.cons (Le.refl _) (.cons (Le.refl _) (.cons (Le.refl _) (.cons (Le.refl _) (.cons (Le.refl _) (.cons (Le.refl _) (.cons Le.gh .nil)))))))) ?_
 intro d hd
 simp only [List.mem_cons, List.not_mem_nil, or_false] at hd
 rcases hd with rfl | rfl | rfl | rfl | rfl | rfl | rfl | rfl <;> rfl
theorem noC_le : Le (.agg [.nil, .nil, .nil]) (⟨[], [], []⟩ : Cod).enc := by
 refine Le.agg (.cons Le.nil (.cons Le.nil (.cons Le.nil .nil))) ?_
 intro d hd
 simp only [List.mem_cons, List.not_mem_nil, or_false] at hd
 rcases hd with rfl | rfl | rfl <;> rfl
theorem same_le {v : AV} {l m : List Int} (hv : Le v (rowOf intA m)) (hl : l.length <= 1000) (hm : m.length <= 1000) : Pure Tryz.prog G 14 [rowOf intA l, v] (.bool (decide (l = m))) :=
 (sameInts_pure G l m (by omega) (by omega)).lessArgs (.cons (Le.refl _) (.cons hv .nil))
theorem zI_cells : (el Tryz.prog 23).bind (zc Tryz.prog) = some [.int .u8 0, .int .i64 0, .int .i64 0, .int .i64 0, .int .i64 0, .int .i64 0, .str [], .nil] := by kernel_rfl
theorem tfM : aelt Tryz.prog 23 = some (39, 8, 88) := tf23.2.2.2.2.2.2
theorem exItems : Items 6 8 exRow (exRow.flatMap flat) := by
 refine ⟨rfl, rfl, fun a ha => ?_⟩
 simp only [exRow, List.mem_cons, List.not_mem_nil, or_false] at ha
 rcases ha with rfl | rfl | rfl | rfl | rfl | rfl <;> exact ⟨rfl, rfl⟩
def exZ : List AV := (List.replicate 6 [AV.int .u8 0, .int .i64 0, .int .i64 0, .int .i64 0, .int .i64 0, .int .i64 0, .str [], .nil]).flatten
def exZ1 : List AV := exZ.take 40 ++ flat (insN 14 9) ++ exZ.drop 48
def exRF : List AV := exRow.flatMap flat
theorem exZ1_len : exZ1.length = 48 := by decide
theorem exZ_len : exZ.length = 48 := by decide
theorem exZ1_eq : exZ.take 40 ++ [AV.int .u8 14, .int .i64 0, .int .i64 0, .int .i64 0, .int .i64 0, .int .i64 9, .str [], .nil] ++ exZ.drop 48 = exZ1 := by simp only [exZ1, insN, flat]
theorem exRF_eq : AV.int .u8 12 :: .int .i64 0 :: .int .i64 0 :: .int .i64 0 :: .int .i64 0 :: .int .i64 2 :: .str [] :: .nil :: exZ1.drop 8 = exRF := by simp [exRF, exRow, exZ1, exZ, insN, flat, List.replicate]
theorem make6 {σ : AS} {K : AV -> AS -> Prop} {d : Dum σ} {d' : Dum K} (hK : ∀ b, σ.fresh b -> K (.bs b 6 8 39) (σ.setBox b exZ)) : makeW Tryz.prog σ 23 (.int .i64 6) (.int .i64 6) K d d' := make_row 6 tfM zI_cells (by omega) hK
theorem frzC {G : Nat -> AV} {K : Ctx} {σ : AS} {w : World} (hr : Rel G K σ w) {b c : Nat} (hb : σ.box b = some exRF) (hne : c ≠ b) (hc : σ.box c = some [.nil, .bs b 6 8 39, .nil]) :
  ∃ K', K.le K' /\ Rel G K' ((σ.froze b 6 8).setBox c [.nil, .sl (.own b) exRow [], .nil]) w := by
 refine hr.freezeIn hb exItems hne hc rfl (fun x hx => ?_) (fun j g1 g2 => ?_) ⟨1, by simp, Has.bs⟩
 ·simp only [List.mem_cons, List.not_mem_nil, or_false] at hx
  rcases hx with rfl | rfl | rfl <;> rfl
 ·match j, g1 with
  | 0, _ => exact .same _
  | 1, _ => exact .here _
  | 2, _ => exact .same _
set_option maxHeartbeats 8000000 in
theorem awake_pure (hg : GlobC G) : Pure Tryz.prog G 9 [] (.bool true) := by
 have hi : iCall.Rng := ⟨by unfold i64R; decide, by unfold i64R; decide, by unfold i64R; decide, by unfold i64R; decide, by unfold i64R; decide, fun n hn => by
  simp only [iCall, List.mem_cons, List.not_mem_nil, or_false] at hn
  rcases hn with rfl | rfl <;> (unfold i64R; decide)⟩
 have p1 := (writes_pure hg iCall).lessArgs (.cons call_le .nil)
 have p2 := (codTextG_pure hg iCall hi (by decide) (pieces_len iCall hi (by decide)) (fun h => absurd h (by decide))).lessArgs (.cons call_le .nil)
 have p3 := (reads_pure hg iSame (by decide)).lessArgs (.cons (show Le (.agg [.int .u8 16, .int .i64 0, .int .i64 1, .int .i64 4, .int .i64 0, .int .i64 0, .str [], .nil]) iSame.enc from by
  refine Le.agg (.cons (Le.refl _) (.cons (Le.refl _) (.cons (Le.refl _) (.cons (Le.refl _) (.cons (Le.refl _) (.cons (Le.refl _) (.cons (Le.refl _) (.cons Le.nil .nil)))))))) ?_
  intro d hd
  simp only [List.mem_cons, List.not_mem_nil, or_false] at hd
  rcases hd with rfl | rfl | rfl | rfl | rfl | rfl | rfl | rfl <;> rfl) .nil)
 have p4 := fun b => (next_pure hg exCode (by decide) 5).lessArgs (.cons (exRow_le (b := b)) (.cons (Le.refl _) .nil))
 have p5 := fun b => (next_pure hg exCode (by decide) 0).lessArgs (.cons (exRow_le (b := b)) (.cons (Le.refl _) .nil))
 have p6 := (codRight_pure hg ⟨[], [], []⟩ (by decide)).lessArgs (.cons noC_le .nil)
 have p7 := fun b => (codRight_pure hg exCode (by decide)).lessArgs (.cons (exRow_le (b := b)) .nil)
 rw [show textOf iCall = [99, 97, 108, 108, 32, 115, 51, 32, 35, 50, 32, 40, 115, 48, 32, 115, 49, 41] by decide +kernel] at p2
 rw [show reads iSame = [1, 4] by decide +kernel] at p3
 simp only [show nexts exCode 5 = [6, 9] by decide +kernel] at p4
 simp only [show nexts exCode 0 = [2] by decide +kernel] at p5
 rw [show codRight ⟨[], [], []⟩ = true by decide +kernel] at p6
 simp only [show codRight exCode = false by decide +kernel] at p7
 have s1 := same_le (G := G) (l := [1, 4]) (le_full1 [1, 4]) (by decide) (by decide)
 have s2 := same_le (G := G) (l := [6, 9]) (le_full1 [6, 9]) (by decide) (by decide)
 have s3 := same_le (G := G) (l := [2]) (le_full1 [2]) (by decide) (by decide)
 rw [decide_eq_true rfl] at s1 s2 s3
 simp only [List.map_cons, List.map_nil, intA] at s1 s2 s3
 rw [show writesB iCall = true by decide +kernel, if_pos rfl, show iCall.a = 3 from rfl] at p1
 clear hg hi
 intro σ
 refine Tri.of_awp mixed Tryz.func9 rfl (by kernel_rfl) (by kernel_rfl) (by simp [Tryz.ntmps9]) Tryz.results9 ?_
 repeat' (first | refine xs ?_ ?_ <;> intros | (refine wn ?_; intro bx hbx; try simp only [fb] at hbx) | ((refine make6 (fun rr hrr => ?_); simp only [fb] at hrr)) | refine wj ?_ | simp -dsimp only [↓bp, bq, br, seval, tbAwkC, exZ_len, exZ1_len, exZ1_eq, exRF_eq, *] | refine wz ?_ | fail)
 rename Nat => bc
 obtain ⟨⟨hfc, hc1, hc2⟩, ncr, nrc⟩ := hbx
 rename σ.fresh bx => hbx1
 obtain ⟨ST, hST⟩ : ∃ ST : AS, ST = (((σ.setBox bx [.int .u8 6, .int .i64 3, .int .i64 0, .int .i64 0, .int .i64 2, .int .i64 0, .str [], .sl .full [.int .i64 0, .int .i64 1] []]).setBox rr exZ).setBox bc [.nil, .bs rr 6 8 39, .nil]).setBox rr exRF := ⟨_, rfl⟩
 have hl0 : σ.le ST := by rw [hST]; exact ((((AS.le.refl σ).setBox hbx1.1 _).setBox hrr.1.1 _).setBox hfc.1 _).setBox hrr.1.1 _
 have hle : σ.le (ST.froze rr 6 8) := AS.froze_le hl0 hrr.1.1 hrr.1.2.1
 have g1 : ST.box rr = some exRF := by rw [hST]; exact AS.set_get
 have g2 : ST.box bc = some [.nil, .bs rr 6 8 39, .nil] := by rw [hST]; simp [AS.setBox, ncr]
 have g3 : (ST.froze rr 6 8).box bx = some [.int .u8 6, .int .i64 3, .int .i64 0, .int .i64 0, .int .i64 2, .int .i64 0, .str [], .sl .full [.int .i64 0, .int .i64 1] []] := by
  rw [hST]; simp [AS.froze, AS.delBox, AS.setTip, AS.setBox, hrr.2.2, hc2]
 rw [<- hST]
 clear hST
 refine Tri.ghost (fun K w hr => frzC hr g1 ncr g2) ?_
 refine Tri.mono (p1 _) ?_
 rintro _ _ ⟨rfl, rfl⟩
 have q4 := p4 rr
 have q5 := p5 rr
 have q7 := p7 rr
 clear p1 p4 p5 p7
 repeat' (first | refine xs ?_ ?_ <;> intros | (refine wn ?_; intro bx hbx; try simp only [fb] at hbx) | refine wp p2 ?_ | refine wp p3 ?_ | refine wp q4 ?_ | refine wp q5 ?_ | refine wp p6 ?_ | refine wp q7 ?_ | refine wp s1 ?_ | refine wp s2 ?_ | refine wp s3 ?_ | refine wj ?_ | simp -dsimp only [↓bp, bq, br, seval, tbAwkC, *] | refine wz ?_ | fail)
 all_goals rfl
end Go.Proofs.YtjmdaeabllkgnaaGreatDoor
set_option maxRecDepth 100000
namespace Go.Proofs.YtjmdaeabllkgnaaGreatDoor
open Go Go.Av
theorem tf35 : tk Tryz.prog 35 = some (false, 1) /\ sk Tryz.prog 35 = .sl 30 /\ (Tryz.prog.underlying 35).isSome = true /\ el Tryz.prog 35 = some 30 /\ zc Tryz.prog 35 = some [.nil] /\ by_ Tryz.prog 35 = some 24 /\ aelt Tryz.prog 35 = some (30, 1, 24) := ⟨by kernel_rfl, by kernel_rfl, by kernel_rfl, by kernel_rfl, by kernel_rfl, by kernel_rfl, by kernel_rfl⟩
theorem tf83 : tk Tryz.prog 83 = some (false, 1) /\ sk Tryz.prog 83 = .ptr 104 /\ (Tryz.prog.underlying 83).isSome = true /\ el Tryz.prog 83 = none /\ zc Tryz.prog 83 = some [.nilptr] /\ by_ Tryz.prog 83 = some 8 := ⟨by kernel_rfl, by kernel_rfl, by kernel_rfl, by kernel_rfl, by kernel_rfl, by kernel_rfl⟩
theorem tf84 : tk Tryz.prog 84 = some (false, 1) /\ sk Tryz.prog 84 = .sl 56 /\ (Tryz.prog.underlying 84).isSome = true /\ el Tryz.prog 84 = some 56 /\ zc Tryz.prog 84 = some [.nil] /\ by_ Tryz.prog 84 = some 24 /\ aelt Tryz.prog 84 = some (56, 1, 24) := ⟨by kernel_rfl, by kernel_rfl, by kernel_rfl, by kernel_rfl, by kernel_rfl, by kernel_rfl, by kernel_rfl⟩
theorem tf85 : tk Tryz.prog 85 = some (false, 1) /\ sk Tryz.prog 85 = .sl 178 /\ (Tryz.prog.underlying 85).isSome = true /\ el Tryz.prog 85 = some 178 /\ zc Tryz.prog 85 = some [.nil] /\ by_ Tryz.prog 85 = some 24 /\ aelt Tryz.prog 85 = some (178, 1, 24) := ⟨by kernel_rfl, by kernel_rfl, by kernel_rfl, by kernel_rfl, by kernel_rfl, by kernel_rfl, by kernel_rfl⟩
theorem tf86 : tk Tryz.prog 86 = some (false, 1) /\ sk Tryz.prog 86 = .sl 179 /\ (Tryz.prog.underlying 86).isSome = true /\ el Tryz.prog 86 = some 179 /\ zc Tryz.prog 86 = some [.nil] /\ by_ Tryz.prog 86 = some 24 /\ aelt Tryz.prog 86 = some (179, 1, 24) := ⟨by kernel_rfl, by kernel_rfl, by kernel_rfl, by kernel_rfl, by kernel_rfl, by kernel_rfl, by kernel_rfl⟩
theorem tf87 : tk Tryz.prog 87 = some (false, 1) /\ sk Tryz.prog 87 = .sl 124 /\ (Tryz.prog.underlying 87).isSome = true /\ el Tryz.prog 87 = some 124 /\ zc Tryz.prog 87 = some [.nil] /\ by_ Tryz.prog 87 = some 24 /\ aelt Tryz.prog 87 = some (124, 1, 24) := ⟨by kernel_rfl, by kernel_rfl, by kernel_rfl, by kernel_rfl, by kernel_rfl, by kernel_rfl, by kernel_rfl⟩
theorem tf88 : tk Tryz.prog 88 = some (false, 1) /\ sk Tryz.prog 88 = .sl 54 /\ (Tryz.prog.underlying 88).isSome = true /\ el Tryz.prog 88 = some 54 /\ zc Tryz.prog 88 = some [.nil] /\ by_ Tryz.prog 88 = some 24 /\ aelt Tryz.prog 88 = some (54, 1, 24) := ⟨by kernel_rfl, by kernel_rfl, by kernel_rfl, by kernel_rfl, by kernel_rfl, by kernel_rfl, by kernel_rfl⟩
theorem tf89 : tk Tryz.prog 89 = some (false, 1) /\ sk Tryz.prog 89 = .sl 182 /\ (Tryz.prog.underlying 89).isSome = true /\ el Tryz.prog 89 = some 182 /\ zc Tryz.prog 89 = some [.nil] /\ by_ Tryz.prog 89 = some 24 /\ aelt Tryz.prog 89 = some (182, 1, 24) := ⟨by kernel_rfl, by kernel_rfl, by kernel_rfl, by kernel_rfl, by kernel_rfl, by kernel_rfl, by kernel_rfl⟩
theorem tf91 : tk Tryz.prog 91 = some (false, 1) /\ sk Tryz.prog 91 = .sl 187 /\ (Tryz.prog.underlying 91).isSome = true /\ el Tryz.prog 91 = some 187 /\ zc Tryz.prog 91 = some [.nil] /\ by_ Tryz.prog 91 = some 24 /\ aelt Tryz.prog 91 = some (187, 1, 24) := ⟨by kernel_rfl, by kernel_rfl, by kernel_rfl, by kernel_rfl, by kernel_rfl, by kernel_rfl, by kernel_rfl⟩
theorem tf92 : tk Tryz.prog 92 = some (false, 1) /\ sk Tryz.prog 92 = .sl 192 /\ (Tryz.prog.underlying 92).isSome = true /\ el Tryz.prog 92 = some 192 /\ zc Tryz.prog 92 = some [.nil] /\ by_ Tryz.prog 92 = some 24 /\ aelt Tryz.prog 92 = some (192, 1, 24) := ⟨by kernel_rfl, by kernel_rfl, by kernel_rfl, by kernel_rfl, by kernel_rfl, by kernel_rfl, by kernel_rfl⟩
theorem tf93 : tk Tryz.prog 93 = some (false, 1) /\ sk Tryz.prog 93 = .sl 198 /\ (Tryz.prog.underlying 93).isSome = true /\ el Tryz.prog 93 = some 198 /\ zc Tryz.prog 93 = some [.nil] /\ by_ Tryz.prog 93 = some 24 /\ aelt Tryz.prog 93 = some (198, 1, 24) := ⟨by kernel_rfl, by kernel_rfl, by kernel_rfl, by kernel_rfl, by kernel_rfl, by kernel_rfl, by kernel_rfl⟩
theorem tf94 : tk Tryz.prog 94 = some (false, 1) /\ sk Tryz.prog 94 = .sl 204 /\ (Tryz.prog.underlying 94).isSome = true /\ el Tryz.prog 94 = some 204 /\ zc Tryz.prog 94 = some [.nil] /\ by_ Tryz.prog 94 = some 24 /\ aelt Tryz.prog 94 = some (204, 1, 24) := ⟨by kernel_rfl, by kernel_rfl, by kernel_rfl, by kernel_rfl, by kernel_rfl, by kernel_rfl, by kernel_rfl⟩
theorem tf95 : tk Tryz.prog 95 = some (false, 1) /\ sk Tryz.prog 95 = .sl 209 /\ (Tryz.prog.underlying 95).isSome = true /\ el Tryz.prog 95 = some 209 /\ zc Tryz.prog 95 = some [.nil] /\ by_ Tryz.prog 95 = some 24 /\ aelt Tryz.prog 95 = some (209, 1, 24) := ⟨by kernel_rfl, by kernel_rfl, by kernel_rfl, by kernel_rfl, by kernel_rfl, by kernel_rfl, by kernel_rfl⟩
theorem tf96 : tk Tryz.prog 96 = some (false, 1) /\ sk Tryz.prog 96 = .sl 23 /\ (Tryz.prog.underlying 96).isSome = true /\ el Tryz.prog 96 = some 23 /\ zc Tryz.prog 96 = some [.nil] /\ by_ Tryz.prog 96 = some 24 /\ aelt Tryz.prog 96 = some (23, 1, 24) := ⟨by kernel_rfl, by kernel_rfl, by kernel_rfl, by kernel_rfl, by kernel_rfl, by kernel_rfl, by kernel_rfl⟩
theorem tf97 : tk Tryz.prog 97 = some (false, 1) /\ sk Tryz.prog 97 = .sl 22 /\ (Tryz.prog.underlying 97).isSome = true /\ el Tryz.prog 97 = some 22 /\ zc Tryz.prog 97 = some [.nil] /\ by_ Tryz.prog 97 = some 24 /\ aelt Tryz.prog 97 = some (22, 1, 24) := ⟨by kernel_rfl, by kernel_rfl, by kernel_rfl, by kernel_rfl, by kernel_rfl, by kernel_rfl, by kernel_rfl⟩
theorem tf98 : tk Tryz.prog 98 = some (false, 1) /\ sk Tryz.prog 98 = .sl 214 /\ (Tryz.prog.underlying 98).isSome = true /\ el Tryz.prog 98 = some 214 /\ zc Tryz.prog 98 = some [.nil] /\ by_ Tryz.prog 98 = some 24 /\ aelt Tryz.prog 98 = some (214, 1, 24) := ⟨by kernel_rfl, by kernel_rfl, by kernel_rfl, by kernel_rfl, by kernel_rfl, by kernel_rfl, by kernel_rfl⟩
theorem tf99 : tk Tryz.prog 99 = some (false, 1) /\ sk Tryz.prog 99 = .sl 216 /\ (Tryz.prog.underlying 99).isSome = true /\ el Tryz.prog 99 = some 216 /\ zc Tryz.prog 99 = some [.nil] /\ by_ Tryz.prog 99 = some 24 /\ aelt Tryz.prog 99 = some (216, 1, 24) := ⟨by kernel_rfl, by kernel_rfl, by kernel_rfl, by kernel_rfl, by kernel_rfl, by kernel_rfl, by kernel_rfl⟩
theorem tf100 : tk Tryz.prog 100 = some (false, 1) /\ sk Tryz.prog 100 = .sl 221 /\ (Tryz.prog.underlying 100).isSome = true /\ el Tryz.prog 100 = some 221 /\ zc Tryz.prog 100 = some [.nil] /\ by_ Tryz.prog 100 = some 24 /\ aelt Tryz.prog 100 = some (221, 1, 24) := ⟨by kernel_rfl, by kernel_rfl, by kernel_rfl, by kernel_rfl, by kernel_rfl, by kernel_rfl, by kernel_rfl⟩
theorem tf101 : tk Tryz.prog 101 = some (false, 1) /\ sk Tryz.prog 101 = .sl 226 /\ (Tryz.prog.underlying 101).isSome = true /\ el Tryz.prog 101 = some 226 /\ zc Tryz.prog 101 = some [.nil] /\ by_ Tryz.prog 101 = some 24 /\ aelt Tryz.prog 101 = some (226, 1, 24) := ⟨by kernel_rfl, by kernel_rfl, by kernel_rfl, by kernel_rfl, by kernel_rfl, by kernel_rfl, by kernel_rfl⟩
theorem tf102 : tk Tryz.prog 102 = some (false, 1) /\ sk Tryz.prog 102 = .sl 230 /\ (Tryz.prog.underlying 102).isSome = true /\ el Tryz.prog 102 = some 230 /\ zc Tryz.prog 102 = some [.nil] /\ by_ Tryz.prog 102 = some 24 /\ aelt Tryz.prog 102 = some (230, 1, 24) := ⟨by kernel_rfl, by kernel_rfl, by kernel_rfl, by kernel_rfl, by kernel_rfl, by kernel_rfl, by kernel_rfl⟩
theorem tf104 : tk Tryz.prog 104 = some (true, 20) /\ sk Tryz.prog 104 = .st /\ (Tryz.prog.underlying 104).isSome = true /\ el Tryz.prog 104 = none /\ zc Tryz.prog 104 = some [.nil, .nil, .nil, .nil, .nil, .nil, .nil, .nil, .nil, .nil, .nil, .nil, .nil, .nil, .nil, .nil, .nil, .nil, .nil, .nil] /\ by_ Tryz.prog 104 = some 480 /\ places Tryz.prog 104 = some [(0, 1), (1, 1), (2, 1), (3, 1), (4, 1), (5, 1), (6, 1), (7, 1), (8, 1), (9, 1), (10, 1), (11, 1), (12, 1), (13, 1), (14, 1), (15, 1), (16, 1), (17, 1), (18, 1), (19, 1)] /\ fld Tryz.prog 104 0 = some (0, false, 1) /\ fld Tryz.prog 104 1 = some (1, false, 1) /\ fld Tryz.prog 104 2 = some (2, false, 1) /\ fld Tryz.prog 104 3 = some (3, false, 1) /\ fld Tryz.prog 104 4 = some (4, false, 1) /\ fld Tryz.prog 104 5 = some (5, false, 1) /\ fld Tryz.prog 104 6 = some (6, false, 1) /\ fld Tryz.prog 104 7 = some (7, false, 1) /\ fld Tryz.prog 104 8 = some (8, false, 1) /\ fld Tryz.prog 104 9 = some (9, false, 1) /\ fld Tryz.prog 104 10 = some (10, false, 1) /\ fld Tryz.prog 104 11 = some (11, false, 1) /\ fld Tryz.prog 104 12 = some (12, false, 1) /\ fld Tryz.prog 104 13 = some (13, false, 1) /\ fld Tryz.prog 104 14 = some (14, false, 1) /\ fld Tryz.prog 104 15 = some (15, false, 1) /\ fld Tryz.prog 104 16 = some (16, false, 1) /\ fld Tryz.prog 104 17 = some (17, false, 1) /\ fld Tryz.prog 104 18 = some (18, false, 1) /\ fld Tryz.prog 104 19 = some (19, false, 1) := ⟨by kernel_rfl, by kernel_rfl, by kernel_rfl, by kernel_rfl, by kernel_rfl, by kernel_rfl, by kernel_rfl, by kernel_rfl, by kernel_rfl, by kernel_rfl, by kernel_rfl, by kernel_rfl, by kernel_rfl, by kernel_rfl, by kernel_rfl, by kernel_rfl, by kernel_rfl, by kernel_rfl, by kernel_rfl, by kernel_rfl, by kernel_rfl, by kernel_rfl, by kernel_rfl, by kernel_rfl, by kernel_rfl, by kernel_rfl, by kernel_rfl⟩
end Go.Proofs.YtjmdaeabllkgnaaGreatDoor
