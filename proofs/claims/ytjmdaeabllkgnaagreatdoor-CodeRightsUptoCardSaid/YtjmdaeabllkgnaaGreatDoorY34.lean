/- Whether rows of ints lie apart, by the kit's bag: they do, where each has memory of its own. -/
import Derived.Test.YtjmdaeabllkgnaaGreatDoorY32
import Derived.Test.YtjmdaeabllkgnaaGreatDoorY33
import Derived.Test.YtjmdaeabllkgnaaGreatDoorY23
import Derived.Test.YtjmdaeabllkgnaaGreatDoorY12
import Derived.Test.YtjmdaeabllkgnaaGreatDoorY31
import Derived.Test.YtjmdaeabllkgnaaGreatDoorY11
set_option linter.unusedVariables false
set_option linter.unusedSimpArgs false
set_option maxRecDepth 20000
set_option linter.defProp false
namespace Go.Proofs.YtjmdaeabllkgnaaGreatDoor
open Go Go.Av
section
def tbApI := And.intro (And.intro (And.intro (And.intro @tf3 (And.intro @tf4 @tf30)) (And.intro @tf35 (And.intro @tf104 @tf83))) (And.intro (And.intro @tf84 (And.intro @tf85 @tf87)) (And.intro (And.intro @tf86 @tf88) (And.intro @tf89 @tf90)))) (And.intro (And.intro (And.intro @tf91 (And.intro @tf92 @tf93)) (And.intro (And.intro @tf94 @tf95) (And.intro @tf96 @tf97))) (And.intro (And.intro @tf98 (And.intro @tf99 @tf100)) (And.intro (And.intro @tf101 @tf102) (And.intro @flat_rowA @isv_rowA))))
variable (G : Nat -> AV)
structure BagI (σ0 σ : AS) (b : Nat) (xs : List Row) : Prop where
 fr : σ0.fresh b
 ex : ∃ v, σ.box b = some [.nil, .nil, v, .nil, .nil, .nil, .nil, .nil, .nil, .nil, .nil, .nil, .nil, .nil, .nil, .nil, .nil, .nil, .nil, .nil] /\ Buf 1 σ0 σ v (xs.map (rowA 1 3))
theorem BagI.le {σ0 σ : AS} {b : Nat} {xs : List Row} (h : BagI σ0 σ b xs) : σ0.le σ := by
 obtain ⟨v, _, h2⟩ := h.ex; exact h2.le
theorem buf_row {n : Nat} {σ0 σ : AS} {v : AV} {l : List AV} (h : Buf n σ0 σ v l) : Av.one v = true /\ flat v = [v] /\ isv v = true := by cases h <;> exact ⟨rfl, rfl, rfl⟩
theorem Buf.setQ {n : Nat} {σ0 σ : AS} {v : AV} {l : List AV} (h : Buf n σ0 σ v l) {b : Nat} (hb : σ0.fresh b) (x : List AV) : Buf n σ0 (σ.setBox b x) v l := by
 cases h with
 | nil h => exact .nil (le_set hb h)
 | own b' xs h h0 ht hx => exact .own b' l (le_set hb h) h0 (by simpa [AS.setBox] using ht) hx
theorem fiRE : el Tryz.prog 35 = some 30 := tf35.2.2.2.1
theorem one_cellI {r : Row} : (flat (rowA 1 3 r)).length = 1 := by rw [flat_rowA]; rfl
theorem putInts_tri (xs : List Row) (r : Row) (σ0 σ : AS) (b : Nat) (hn : xs.length <= 1000000) (h : BagI σ0 σ b xs) :
  Tri Tryz.prog G 58 [.ptr b 0, rowA 1 3 r] σ fun x σ' => x = .tup [] /\ BagI σ0 σ' b (xs ++ [r]) := by
 obtain ⟨hfr, v, hb, hB⟩ := h
 obtain ⟨o1, o2, o3⟩ := buf_row hB
 refine Tri.of_awp mixed Tryz.func58 rfl (by kernel_rfl) (by kernel_rfl) (by simp [Tryz.ntmps58]) Tryz.results58 ?_
 repeat' (first | refine xs ?_ ?_ <;> intros | (refine wn ?_; intro bx hbx; try simp only [fb] at hbx) | (refine build_one fiR (a := rowA 1 3 r) (isv_rowA _ _ _) one_cellI (by omega) ?_) | (refine app_buf (ys := [rowA 1 3 r]) hB fiR (asrc_sl fiRE) (fun a ha => by simp at ha; subst ha; exact one_cellI) (by simp; omega) (fun v3 σ3 hB4 hx4 => ?_)) | refine wj ?_ | simp -dsimp only [↓bp, bq, br, seval, tbApI, *] | refine wz ?_ | fail)
 obtain ⟨p1, p2, p3⟩ := buf_row hB4
 refine ⟨⟨p3, by rw [p2]; rfl⟩, ?_⟩
 rw [p2]
 refine finishW_some _ (AS.le.refl _) ⟨rfl, hfr, v3, by simp [AS.setBox], ?_⟩
 rw [List.map_append]
 exact Buf.setQ hB4 hfr _
theorem mem_inS {rs : List Row} {b : Nat} {σ : AS} (h0 : ∀ (j b n : Nat), rs[j]? = some (some (b, n)) -> ∃ cs, σ.box b = some cs /\ n * 1 <= cs.length) (hb : σ.box b = none) : ¬ InS rs b := fun ⟨n, hn⟩ => by
 obtain ⟨j, hj⟩ := List.getElem?_of_mem hn
 obtain ⟨cs, h1, _⟩ := h0 j b n hj
 rw [hb] at h1; cases h1
set_option maxHeartbeats 2000000 in
theorem apartI_tri (rs : List Row) (hd : Distinct rs) (hN : rs.length <= 1000000) (hn : ∀ (k : Nat) (r : Row), rs[k]? = some r -> rlen r <= 1000000000) (σ0 σ : AS) (b : Nat) (h0 : ∀ (j b n : Nat), rs[j]? = some (some (b, n)) -> ∃ cs, σ0.box b = some cs /\ n * 1 <= cs.length) (h : BagI σ0 σ b rs) :
  Tri Tryz.prog G 59 [.ptr b 0] σ fun r σ' => r = .bool true /\ LeX (InS rs) σ0 σ' := by
 have hle := h.le
 obtain ⟨hfr, v, hb, hB⟩ := h
 have hnb := mem_inS h0 hfr.1
 have hF := flatInts_tri G rs hd hN hn σ (fun j b n hj => by
  obtain ⟨cs, h1, h2⟩ := h0 j b n hj
  exact ⟨cs, hle.box _ _ h1, h2⟩)
 have hF : Tri Tryz.prog G 99 [v] σ _ := Tri.weaken (.cons hB.told .nil) hF
 have hx0 : LeX (InS rs) σ0 σ := ⟨fun b cs _ hc => hle.box b cs hc, hle.tip, hle.ty⟩
 clear h0 hB hle hd hN hn
 have f1 := flatLimbs_nil G
 have f2 := flatWords_nil G
 have f4 := flatLongs_nil G
 have f5 := flatTexts_nil G
 have f6 := flatBytes_nil G
 have f7 := flatFaults_nil G
 have f8 := flatTerms_nil G
 have f9 := flatTokens_nil G
 have f10 := flatNodes_nil G
 have f11 := flatCores_nil G
 have f12 := flatFuncs_nil G
 have f13 := flatPrograms_nil G
 have f14 := flatInstrs_nil G
 have f15 := flatEntries_nil G
 have f16 := flatCodes_nil G
 have f17 := flatSteps_nil G
 have f18 := flatEndeds_nil G
 have f19 := flatNameds_nil G
 have f20 := flatSeens_nil G
 refine Tri.of_awp mixed Tryz.func59 rfl (by kernel_rfl) (by kernel_rfl) (by simp [Tryz.ntmps59]) Tryz.results59 ?_
 repeat' (first | refine xs ?_ ?_ <;> intros | (refine wn ?_; intro bx hbx; try simp only [fb] at hbx) | refine wp f1 ?_ | refine wp f2 ?_ | ((refine Tri.mono hF ?_; rintro r s2 ⟨rfl, hX⟩; have hb2 := hX.box _ _ hnb hb)) | refine wp f4 ?_ | refine wp f5 ?_ | refine wp f6 ?_ | refine wp f7 ?_ | refine wp f8 ?_ | refine wp f9 ?_ | refine wp f10 ?_ | refine wp f11 ?_ | refine wp f12 ?_ | refine wp f13 ?_ | refine wp f14 ?_ | refine wp f15 ?_ | refine wp f16 ?_ | refine wp f17 ?_ | refine wp f18 ?_ | refine wp f19 ?_ | refine wp f20 ?_ | refine wj ?_ | simp -dsimp only [↓bp, bq, br, seval, tbApI, *] | refine wz ?_ | fail)
 exact finishW_some _ (AS.le.refl _) ⟨rfl, hx0.trans hX⟩
theorem apartInts_tri (rs : List Row) (g : Gh) (hd : Distinct rs) (hN : rs.length <= 1000000) (hn : ∀ (k : Nat) (r : Row), rs[k]? = some r -> rlen r <= 1000000000) (σ : AS) (h0 : ∀ (j b n : Nat), rs[j]? = some (some (b, n)) -> ∃ cs, σ.box b = some cs /\ n * 1 <= cs.length) :
  Tri Tryz.prog G 17 [.sl g (rs.map (rowA 1 3)) []] σ fun r σ' => r = .bool true /\ LeX (InS rs) σ σ' := by
 refine Tri.weaken (.cons Le.gh .nil) ?_
 have hA := fun (σ' : AS) (b : Nat) (h : BagI σ σ' b rs) => apartI_tri G rs hd hN hn σ σ' b h0 h
 clear hd hn h0
 refine Tri.of_awp mixed Tryz.func17 rfl (by kernel_rfl) (by kernel_rfl) (by simp [Tryz.ntmps17]) Tryz.results17 ?_
 simp -dsimp only [↓bp, bq, br, seval, tbApI]
 refine newW_intro fun b hb => ?_
 have hB0 : BagI σ (σ.setBox b [.nil, .nil, .nil, .nil, .nil, .nil, .nil, .nil, .nil, .nil, .nil, .nil, .nil, .nil, .nil, .nil, .nil, .nil, .nil, .nil]) b [] := ⟨hb, .nil, by simp [AS.setBox], Buf.setQ (.nil (AS.le.refl σ)) hb _⟩
 generalize σ.setBox b [.nil, .nil, .nil, .nil, .nil, .nil, .nil, .nil, .nil, .nil, .nil, .nil, .nil, .nil, .nil, .nil, .nil, .nil, .nil, .nil] = S0 at *
 repeat' (first | refine xs ?_ ?_ <;> intros | (refine wn ?_; intro bx hbx; try simp only [fb] at hbx) | refine wj ?_ | simp -dsimp only [↓bp, bq, br, seval, tbApI, *] | refine wz ?_ | fail)
 refine loop_intro (fun n e σ' => ∃ i : Nat, i <= rs.length /\ n = rs.length - i /\ e 4 = .int .i64 i /\ BagI σ σ' b (rs.take i)) rs.length
  ⟨0, by omega, by omega, by first | (simp -dsimp only [↓bp, bq, br, seval, tbApI]; done) | (simp -dsimp only [↓bp, bq, br, seval, tbApI]; try rfl), by simpa using hB0⟩ ?_
 clear hB0
 rintro n e σ2 ⟨i, hi, rfl, h4, hB⟩
 simp -dsimp only [↓bp, bq, br, seval, tbApI] at h4
 by_cases hlt : (i : Int) < rs.length
 ·obtain ⟨x, hx⟩ : ∃ x, rs[i]? = some x := ⟨_, List.getElem?_eq_getElem (by omega)⟩
  have hwi : IntKind.i64.wrap ((i : Int) + 1) = ((i + 1 : Nat) : Int) := by rw [wrap_nat (by omega) (by omega)]; rfl
  have hp := putInts_tri G (rs.take i) x σ σ2 b (by rw [List.length_take]; omega) hB
  rw [<- take_succ_get _ _ _ hx] at hp
  have hlt' := eq_true hlt
  clear hA hB
  repeat' (first | refine xs ?_ ?_ <;> intros | (refine wn ?_; intro bx hbx; try simp only [fb] at hbx) | ((refine Tri.mono hp ?_; rintro r s2 ⟨rfl, hB2⟩)) | refine wj ?_ | simp -dsimp only [↓bp, bq, br, seval, tbApI, *] | refine wz ?_ | fail)
  all_goals exact ⟨rs.length - (i + 1), by omega, i + 1, by omega, rfl, rfl, hB2⟩
 ·have : i = rs.length := by omega
  subst this
  rw [List.take_length] at hB
  have hlt' := eq_false hlt
  have hp := hA σ2 b hB
  clear hA hB
  repeat' (first | refine xs ?_ ?_ <;> intros | (refine wn ?_; intro bx hbx; try simp only [fb] at hbx) | ((refine Tri.mono hp ?_; rintro r s2 ⟨rfl, hX⟩)) | refine wj ?_ | simp -dsimp only [↓bp, bq, br, seval, tbApI, *] | refine wz ?_ | fail)
  all_goals exact finishW_some _ (AS.le.refl _) ⟨rfl, hX⟩
end
set_option maxRecDepth 20000
section
def tbLentI := And.intro (And.intro @tf3 (And.intro @tf4 @tf30)) (And.intro (And.intro @isv_rowOf @flat_rowOf) (And.intro @len_rowOf @ix_rowOf))
variable (G : Nat -> AV)
theorem make_wb {P : Program} {n by_ : Nat} {σ0 σ : AS} {t e : TypeId} {k k' : IntKind} {zz : List AV} (c : Nat) {c' : Int} (hc : c' = c) {K : AV -> AS -> Prop} {d : Dum σ} {d' : Dum K} (he : aelt P t = some (e, n, by_)) (hz : (el P t).bind (zc P) = some zz) (hb : c * by_ <= 140737488355328) (hle : σ0.le σ)
  (hK : ∀ v σ', WBuf n e σ0 σ' v [] -> K v σ') : makeW P σ t (.int k 0) (.int k' c') K d d' := by
 subst hc
 refine .inr ?_
 unfold amakeM
 rw [he, hz]
 refine ⟨by omega, by omega, by rw [<- Int.natCast_mul]; omega, fun b hf => ?_⟩
 have h0 : σ0.box b = none := by
  cases e : σ0.box b with
  | none => rfl
  | some cs => have := hle.box _ _ e; rw [hf.1] at this; cases this
 have h1 : σ0.tip b = none := by
  cases e : σ0.tip b with
  | none => rfl
  | some cs => have := hle.tip _ _ e; rw [hf.2.1] at this; cases this
 exact hK _ _ (.row b [] (hle.setBox h0 _) h0 h1 AS.set_get (fun a ha => by simp at ha))
def imk (i : Int) : AV := .int .i64 (markI 1 i)
def imTo (i : Nat) : List AV := (List.range i).map fun (i : Nat) => imk (i : Int)
theorem imTo_succ (i : Nat) : imTo (i + 1) = imTo i ++ [imk (i : Int)] := by simp [imTo, List.range_succ]
theorem imTo_len (i : Nat) : (imTo i).length = i := by simp [imTo]
def imarks : List AV := imTo 12
def kentI (l : List Int) : AV := .sl .none (l.map intA) imarks
theorem isv_kentI (l : List Int) : isv (kentI l) = true := rfl
theorem flat_kentI (l : List Int) : flat (kentI l) = [kentI l] := rfl
theorem kentI_le (l : List Int) : Le (kentI l) (rowOf intA l) := Le.spare
theorem flat1I {l : List Int} : ∀ a, a ∈ l.map intA -> (flat a).length = 1 := fun a ha => by
 obtain ⟨x, _, rfl⟩ := List.mem_map.1 ha; rfl
theorem tfIZ : (el Tryz.prog 30).bind (zc Tryz.prog) = some [.int .i64 0] := by kernel_rfl
theorem im_flat (l : List Int) (k : Nat) : (l.map intA ++ imTo k).flatMap flat = l.map intA ++ imTo k := by
 have h : ∀ m : List AV, (∀ a, a ∈ m -> flat a = [a]) -> m.flatMap flat = m := fun m => by
  induction m with
  | nil => intro _; rfl
  | cons a m ih => intro h; rw [List.flatMap_cons, h a (by simp), ih fun b hb => h b (by simp [hb])]; rfl
 refine h _ fun a ha => ?_
 rcases List.mem_append.1 ha with ha | ha
 ·obtain ⟨x, _, rfl⟩ := List.mem_map.1 ha; rfl
 ·obtain ⟨x, _, rfl⟩ := List.mem_map.1 ha; rfl
structure LentAt (σ σ' : AS) (b : Nat) (l : List Int) : Prop where
 le : σ.le σ'
 b0 : σ.box b = none
 t0 : σ.tip b = none
 bx : σ'.box b = some (l.map intA ++ imarks)
set_option maxHeartbeats 2000000 in
theorem lentI_tri (l : List Int) (hl : l.length <= 1000000000) (σ : AS) : Tri Tryz.prog G 60 [rowOf intA l] σ fun r σ' => ∃ b, r = .bs b l.length 1 3 /\ LentAt σ σ' b l := by
 have hw0 : IntKind.i64.wrap ((l.length : Int) + 12) = l.length + 12 := wrap_nat (by omega) (by omega)
 refine Tri.of_awp mixed Tryz.func60 rfl (by kernel_rfl) (by kernel_rfl) (by simp [Tryz.ntmps60]) Tryz.results60 ?_
 repeat' (first | (refine wn ?_; intro bx hbx; try simp only [fb] at hbx) | (refine make_wb (l.length + 12) (by omega) tfI tfIZ (by omega) (AS.le.refl σ) (fun v σ1 hB1 => ?_)) | (refine app_wb (ys := l.map intA) hB1 tfI (asrc_sl tfIE) (fun a ha => ⟨flat1I a ha, by obtain ⟨x, _, rfl⟩ := List.mem_map.1 ha; rfl⟩) (by simp; omega) (fun v2 σ2 hA2 => ?_)) | refine wj ?_ | simp -dsimp only [↓bp, bq, br, seval, tbLentI, *] | refine wz ?_ | fail)
 have hB2 := hA2.buf
 rw [List.nil_append] at hB2
 clear hA2 hB1
 refine loop_intro (fun n e σ' => ∃ (i : Nat) (v : AV), i <= 12 /\ n = 12 - i /\ e 4 = .int .i64 i /\ e 3 = v /\ WBuf 1 3 σ σ' v (l.map intA ++ imTo i)) 12
  ⟨0, v2, by omega, by omega, by first | (simp -dsimp only [↓bp, bq, br, seval, tbLentI]; done) | (simp -dsimp only [↓bp, bq, br, seval, tbLentI]; try rfl), by first | (simp -dsimp only [↓bp, bq, br, seval, tbLentI]; done) | (simp -dsimp only [↓bp, bq, br, seval, tbLentI]; try rfl), by simpa [imTo] using hB2⟩ ?_
 clear hB2
 rintro n e2 σ3 ⟨i, v3, hi2, rfl, h4, h3, hB3⟩
 simp -dsimp only [↓bp, bq, br, seval, tbLentI] at h4 h3
 by_cases hlt : (i : Int) < 12
 ·have hlt' := eq_true hlt
  have hp := mark_pure G 1 i
  have hwi : IntKind.i64.wrap ((i : Int) + 1) = ((i + 1 : Nat) : Int) := by rw [wrap_nat (by omega) (by omega)]; rfl
  have hlen : (l.map intA ++ imTo i).length <= 1000000012 := by rw [List.length_append, List.length_map, imTo_len]; omega
  clear hw0
  repeat' (first | (refine wn ?_; intro bx hbx; try simp only [fb] at hbx) | refine wp hp ?_ | (refine app_wb (ys := [imk (i : Int)]) hB3 tfI (asrc_sl tfIE) (fun a ha => by simp at ha; subst ha; exact ⟨rfl, rfl⟩) (by simp only [List.length_cons, List.length_nil]; omega) (fun v4 σ4 hA4 => ?_)) | refine wj ?_ | simp -dsimp only [↓bp, bq, br, seval, tbLentI, *] | refine wz ?_ | fail)
  exact ⟨12 - (i + 1), by omega, i + 1, v4, by omega, rfl, rfl, rfl, by rw [imTo_succ, <- List.append_assoc]; exact hA4.buf⟩
 ·have : i = 12 := by omega
  subst this
  have hlt' : (((12 : Nat) : Int) < 12) = False := by simp
  have hne : l.map intA ++ imTo 12 ≠ [] := fun e => by have := congrArg List.length e; simp [imTo_len] at this
  obtain ⟨r, hv, hr1, hr2, hr3⟩ := hB3.form hne
  have hle := hB3.le
  have hlen : (l.map intA ++ imTo 12).length = l.length + 12 := by rw [List.length_append, List.length_map, imTo_len]
  rw [hlen] at hv
  subst hv
  rw [im_flat] at hr1
  have hll : l.length <= l.length + 12 := by omega
  clear hB3 hne hlen hw0 hlt hi2
  repeat' (first | (refine wn ?_; intro bx hbx; try simp only [fb] at hbx) | refine wj ?_ | simp -dsimp only [↓bp, bq, br, seval, tbLentI, *] | refine wz ?_ | fail)
  all_goals exact finishW_some _ (AS.le.refl _) ⟨r, rfl, hle, hr2, hr3, hr1⟩
theorem len_kentI {P : Program} {t : TypeId} (l : List Int) : ablt P .len #[t] [kentI l] = if (el P t).isSome then some (.int .i64 l.length) else none := by
 simp [kentI, l_sl]
theorem sl_kentI {t : TypeId} (l : List Int) (h : Int) (hh : h = l.length + 12) (ht : t = 30) {K : AV -> Prop} {d : Dum K} (hK : ∀ g, K (.sl g (l.map intA ++ imarks) [])) : bo (aslice Tryz.prog t (kentI l) none (some (.int .i64 h))) K d := by
 subst hh ht
 refine piece (l := 0) (h := l.length + 12) tfIE tf3.1 rfl (by simp [abnd]; omega) (by omega) (by simp [imarks, imTo_len]) (fun a ha => ?_) (fun g' => ?_)
 ·rcases List.mem_append.1 ha with ha | ha
  ·exact flat1I a ha
  ·obtain ⟨i, _, rfl⟩ := List.mem_map.1 ha
   rfl
 ·have e1 : ((l.map intA ++ imarks).take (l.length + 12)).drop 0 = l.map intA ++ imarks := by
   rw [List.drop_zero, List.take_of_length_le (by simp [imarks, imTo_len])]
  have e2 : (l.map intA ++ imarks).drop (l.length + 12) = [] := List.drop_eq_nil_of_le (by simp [imarks, imTo_len])
  rw [e1, e2]
  have hml : imarks.length = 12 := by simp [imarks, imTo_len]
  unfold slim
  split
  ·rename_i heq _
   have h2 : imarks = [] := by injection heq
   rw [h2] at hml
   cases hml
  ·exact hK g'
set_option maxHeartbeats 2000000 in
theorem keptI_pure (l : List Int) (hl : l.length <= 1000000000) : Pure Tryz.prog G 65 [kentI l, rowOf intA l] (.bool true) := by
 intro σ
 have hw0 : IntKind.i64.wrap ((l.length : Int) + 12) = l.length + 12 := wrap_nat (by omega) (by omega)
 have hml : imarks.length = 12 := by simp [imarks, imTo_len]
 refine Tri.of_awp mixed Tryz.func65 rfl (by kernel_rfl) (by kernel_rfl) (by simp [Tryz.ntmps65]) Tryz.results65 ?_
 simp -dsimp only [↓bp, bq, br, seval, tbLentI, hw0, len_kentI]
 try refine slW_bo ?_
 refine sl_kentI l _ rfl rfl fun g => ?_
 simp -dsimp only [↓bp, bq, br, seval, tbLentI]
 refine loop_intro (fun n e σ' => ∃ i : Nat, i <= ((l.map intA ++ imarks)).length /\ n = ((l.map intA ++ imarks)).length - i /\ e 6 = .int .i64 i /\ σ.le σ') ((l.map intA ++ imarks)).length
   ⟨0, by omega, by omega, by simp -dsimp only [↓bp, bq, br, seval, tbLentI]; first | done | rfl, AS.le.refl σ⟩ ?_
 rintro n v σ' ⟨i, hi, rfl, h6, hle⟩
 simp -dsimp only [↓bp, bq, br, seval, tbLentI] at h6
 simp -dsimp only [↓bp, bq, br, seval, tbLentI, h6]
 refine condW_dec (fun hlt => ?_) (fun hge => ?_)
 ·have hl3 : i < l.length + 12 := by rw [List.length_append, List.length_map, hml] at hlt; omega
  by_cases hi2 : (i : Int) < l.length
  ·obtain ⟨k, hk⟩ : ∃ k, l[i]? = some k := ⟨_, List.getElem?_eq_getElem (by omega)⟩
   have hx : (l.map intA ++ imarks)[i]? = some (intA k) := by rw [List.getElem?_append_left (by simp; omega), List.getElem?_map, hk]; rfl
   have hge : ¬ (l.length : Int) <= i := by omega
   clear hi hlt
   repeat' (first | refine xs ?_ ?_ <;> intros | (refine wn ?_; intro bx hbx; try simp only [fb] at hbx) | refine wj ?_ | simp -dsimp only [↓bp, bq, br, seval, tbLentI, intA, isv_kentI, flat_kentI, len_kentI, *] | refine wz ?_ | fail)
   all_goals (have hl2 : (l.map intA ++ imarks).length = l.length + 12 := by simp [hml])
   all_goals exact ⟨(l.map intA ++ imarks).length - (i + 1), by omega, i + 1, by omega, rfl, by rw [wrap_nat (by omega) (by omega)]; rfl⟩
  ·have hx : (l.map intA ++ imarks)[i]? = some (imk ((i - l.length : Nat) : Int)) := by
    rw [List.getElem?_append_right (by simp; omega), List.length_map]
    have : i - l.length < 12 := by omega
    simp [imarks, imTo, this]
   have hge : (l.length : Int) <= i := by omega
   have hw1 : IntKind.i64.wrap ((i : Int) - l.length) = ((i - l.length : Nat) : Int) := by rw [wrap_nat (by omega) (by omega)]; omega
   clear hi hlt
   repeat' (first | refine xs ?_ ?_ <;> intros | (refine wn ?_; intro bx hbx; try simp only [fb] at hbx) | refine Pure.use (mark_pure G 1 _) ?_ | refine Pure.head (mark_pure G 1 _) ?_ | refine wj ?_ | simp -dsimp only [↓bp, bq, br, seval, tbLentI, imk, isv_kentI, flat_kentI, len_kentI, *] | refine wz ?_ | fail)
   all_goals (have hl2 : (l.map intA ++ imarks).length = l.length + 12 := by simp [hml])
   all_goals exact ⟨(l.map intA ++ imarks).length - (i + 1), by omega, i + 1, by omega, rfl, by rw [wrap_nat (by omega) (by omega)]; rfl⟩
 ·have : i = (l.map intA ++ imarks).length := by omega
  subst this
  clear hi hge
  repeat' (first | refine xs ?_ ?_ <;> intros | (refine wn ?_; intro bx hbx; try simp only [fb] at hbx) | refine wj ?_ | simp -dsimp only [↓bp, bq, br, seval, tbLentI, *] | refine wz ?_ | fail)
  all_goals rfl
end
set_option maxRecDepth 20000
section
def tbLentC := And.intro (And.intro (And.intro (And.intro @tf3 @tf4) (And.intro @tf5 @tf9)) (And.intro (And.intro @tf37 @tf39) (And.intro @tf30 @isv_rowOf))) (And.intro (And.intro (And.intro @flat_rowOf @len_rowOf) (And.intro @ix_rowOf @Ins.flat_enc)) (And.intro (And.intro @Ins.isv_enc @Ins.fold_enc) (And.intro @isv_kentI @flat_kentI)))
variable (G : Nat -> AV)
def Ins.own (i : Ins) (b : Nat) : AV := .agg [.int .u8 i.opI, .int .i64 i.a, .int .i64 i.b, .int .i64 i.c, .int .i64 i.n, .int .i64 i.l, .str i.text, .bs b i.slots.length 1 3]
def Ins.kent (i : Ins) : AV := .agg [.int .u8 i.opI, .int .i64 i.a, .int .i64 i.b, .int .i64 i.c, .int .i64 i.n, .int .i64 i.l, .str i.text, kentI i.slots]
theorem Ins.kent_le (i : Ins) : Le i.kent i.enc := by
 rw [<- i.fold_enc]
 exact Le.agg (.cons (Le.refl _) (.cons (Le.refl _) (.cons (Le.refl _) (.cons (Le.refl _) (.cons (Le.refl _) (.cons (Le.refl _) (.cons (Le.refl _) (.cons (kentI_le _) .nil)))))))) (fun d hd => by simp at hd; rcases hd with rfl | rfl | rfl | rfl | rfl | rfl | rfl | rfl <;> rfl)
set_option maxHeartbeats 2000000 in
theorem keptIns_pure (i : Ins) (hi : i.bulk <= 1000000000) : Pure Tryz.prog G 23 [i.kent, i.enc] (.bool true) := by
 have hs := (sameIns_pure G i i hi hi).lessArgs (.cons i.kent_le (.cons (Le.refl _) .nil))
 rw [decide_eq_true rfl] at hs
 have hk := keptI_pure G i.slots (by unfold Ins.bulk at hi; omega)
 have he : i.kent = .agg [.int .u8 i.opI, .int .i64 i.a, .int .i64 i.b, .int .i64 i.c, .int .i64 i.n, .int .i64 i.l, .str i.text, kentI i.slots] := rfl
 rw [he] at hs ⊢
 clear he hi
 intro σ
 refine Tri.of_awp mixed Tryz.func23 rfl (by kernel_rfl) (by kernel_rfl) (by simp [Tryz.ntmps23]) Tryz.results23 ?_
 repeat' (first | refine xs ?_ ?_ <;> intros | (refine wn ?_; intro bx hbx; try simp only [fb] at hbx) | refine wp hs ?_ | refine wp hk ?_ | refine wj ?_ | simp -dsimp only [↓bp, bq, br, seval, tbLentC, *] | refine wz ?_ | fail)
 all_goals rfl
set_option maxHeartbeats 2000000 in
theorem lentIns_tri (i : Ins) (hi : i.bulk <= 1000000000) (σ : AS) : Tri Tryz.prog G 19 [i.enc] σ fun r σ' => ∃ b, r = i.own b /\ LentAt σ σ' b i.slots := by
 have hs : i.slots.length <= 1000000000 := by unfold Ins.bulk at hi; omega
 clear hi
 refine Tri.of_awp mixed Tryz.func19 rfl (by kernel_rfl) (by kernel_rfl) (by simp [Tryz.ntmps19]) Tryz.results19 ?_
 repeat' (first | (refine wn ?_; intro bx hbx; try simp only [fb] at hbx) | refine wj ?_ | simp -dsimp only [↓bp, bq, br, seval, tbLentC, *] | refine wz ?_ | fail)
 rename_i b0 hb0
 have z0 : σ.box b0 = none := hb0.1
 have z1 : σ.box bx = none := hbx.1.1
 obtain ⟨S, hS⟩ : ∃ S : AS, S = (σ.setBox b0 [.int .u8 i.opI, .int .i64 i.a, .int .i64 i.b, .int .i64 i.c, .int .i64 i.n, .int .i64 i.l, .str i.text, rowOf intA i.slots]).setBox bx [.int .u8 0, .int .i64 0, .int .i64 0, .int .i64 0, .int .i64 0, .int .i64 0, .str [], .nil] := ⟨_, rfl⟩
 have hS0 : S.box b0 = some [.int .u8 i.opI, .int .i64 i.a, .int .i64 i.b, .int .i64 i.c, .int .i64 i.n, .int .i64 i.l, .str i.text, rowOf intA i.slots] := by rw [hS]; simp [AS.setBox, hbx.2.2]
 have hS1 : S.box bx = some [.int .u8 0, .int .i64 0, .int .i64 0, .int .i64 0, .int .i64 0, .int .i64 0, .str [], .nil] := by rw [hS]; exact AS.set_get
 have hle : σ.le S := by rw [hS]; exact ((AS.le.refl σ).setBox z0 _).setBox z1 _
 rw [<- hS]
 clear hS
 refine Tri.mono (lentI_tri G i.slots hs S) ?_
 rintro _ s2 ⟨b, rfl, hL⟩
 have e0 := hL.le.box _ _ hS0
 have e1 := hL.le.box _ _ hS1
 have n0 : b ≠ b0 := fun e => by have := hL.b0; rw [e, hS0] at this; cases this
 have n1 : b ≠ bx := fun e => by have := hL.b0; rw [e, hS1] at this; cases this
 have y0 : σ.box b = none := by
  cases e : σ.box b with
  | none => rfl
  | some cs => have := hle.box _ _ e; rw [hL.b0] at this; cases this
 have y1 : σ.tip b = none := by
  cases e : σ.tip b with
  | none => rfl
  | some cs => have := hle.tip _ _ e; rw [hL.t0] at this; cases this
 have hz := hL.bx
 have hl2 := hle.trans hL.le
 clear hL hS0 hS1 hle hs hb0
 repeat' (first | (refine wn ?_; intro bx hbx; try simp only [fb] at hbx) | refine wj ?_ | simp -dsimp only [↓bp, bq, br, seval, tbLentC, *] | refine wz ?_ | fail)
 all_goals exact finishW_some _ (AS.le.refl _) ⟨b, rfl, (hl2.setBox z0 _).setBox z1 _, y0, y1, by simp only [AS.setBox, if_neg n0, if_neg n1]; exact hz⟩
end
end Go.Proofs.YtjmdaeabllkgnaaGreatDoor
