/- The kit's copies of code, with marks in their spare room; whether they are as they were. -/
import Derived.Test.YtjmdaeabllkgnaaGreatDoorY34
import Derived.Test.YtjmdaeabllkgnaaGreatDoorY15
import Derived.Test.YtjmdaeabllkgnaaGreatDoorY31
set_option linter.unusedVariables false
set_option linter.unusedSimpArgs false
set_option maxRecDepth 20000
set_option linter.defProp false
namespace Go.Proofs.YtjmdaeabllkgnaaGreatDoor
open Go Go.Av
def tbCodLent := And.intro (And.intro (And.intro (And.intro (And.intro @tf3 @tf4) (And.intro @tf5 @tf9)) (And.intro (And.intro @tf37 @tf39) (And.intro @tf23 @tf30))) (And.intro (And.intro (And.intro @tf53 @tf22) (And.intro @tf26 @tf24)) (And.intro (And.intro @tf58 @isv_rowOf) (And.intro @flat_rowOf @len_rowOf)))) (And.intro (And.intro (And.intro (And.intro @ix_rowOf @isv_encs) (And.intro @flat_encs @len_encs)) (And.intro (And.intro @Ins.flat_enc @Ins.isv_enc) (And.intro @Ins.fold_enc @Ent.flat_enc))) (And.intro (And.intro (And.intro @Ent.isv_enc @Ent.fold_enc) (And.intro @Cod.flat_enc @Cod.isv_enc)) (And.intro (And.intro @Cod.fold_enc @isv_kentI) (And.intro @flat_kentI (And.intro @isv_lents @flat_lents)))))
variable (G : Nat -> AV)
def mkEt (k i : Int) : Ent := ⟨[], 0, 0, 0, markI k i⟩
theorem mkEt_pure (k i : Int) : Pure Tryz.prog G 73 [.int .i64 k, .int .i64 i] (mkEt k i).enc := by
 intro σ
 refine Tri.of_awp mixed Tryz.func73 rfl (by kernel_rfl) (by kernel_rfl) (by simp [Tryz.ntmps73]) Tryz.results73 ?_
 repeat' (first | refine xs ?_ ?_ <;> intros | (refine wn ?_; intro bx hbx; try simp only [fb] at hbx) | refine Pure.use (by apply mark_pure <;> (first | assumption | omega | (simp only [*]; done))) ?_ | refine wj ?_ | simp -dsimp only [↓bp, bq, br, seval, tbCodLent, *] | refine wz ?_ | fail)
 all_goals rfl
theorem eqlEt (x : Ent) : abin Tryz.prog .eql 53 x.enc x.enc = some (.bool true) := by
 have e : fldEq [.str, .int .i64, .int .i64, .int .i64, .int .i64] [.str x.name, .int .i64 x.arity, .int .i64 x.extra, .int .i64 x.slots, .int .i64 x.pos] [.str x.name, .int .i64 x.arity, .int .i64 x.extra, .int .i64 x.slots, .int .i64 x.pos] = some (decide (x.name = x.name) && (decide (x.arity = x.arity) && (decide (x.extra = x.extra) && (decide (x.slots = x.slots) && (decide (x.pos = x.pos) && true))))) := by
  rw [fe_str, fe_int, fe_int, fe_int, fe_int, fe_nil]; rfl
 unfold Ent.enc
 rw [abin_agg, eqK_Ent]
 simp only [Option.bind_some, e]
 simp [aeq]
def marksToEt (k i : Nat) : List AV := (List.range i).map fun (i : Nat) => (mkEt k (i : Int)).enc
theorem marksToEt_succ (k i : Nat) : marksToEt k (i + 1) = marksToEt k i ++ [(mkEt k (i : Int)).enc] := by simp [marksToEt, List.range_succ]
theorem marksToEt_len (k i : Nat) : (marksToEt k i).length = i := by simp [marksToEt]
def marksEt : List AV := marksToEt 1 12
def lentsEt (l : List Ent) : AV := .sl .none (l.map Ent.enc) marksEt
theorem isv_lentsEt (l : List Ent) : isv (lentsEt l) = true := rfl
theorem flat_lentsEt (l : List Ent) : flat (lentsEt l) = [lentsEt l] := rfl
theorem lentsEt_le (l : List Ent) : Le (lentsEt l) (rowOf Ent.enc l) := Le.spare
theorem flatEt_l {l : List Ent} : ∀ a, a ∈ l.map Ent.enc -> (flat a).length = 5 := fun a ha => by
 obtain ⟨x, _, rfl⟩ := List.mem_map.1 ha
 rw [x.flat_enc]; rfl
theorem tlEtN : aelt Tryz.prog 22 = some (53, 5, 48) := tf22.2.2.2.2.2.2
theorem tlEtE : el Tryz.prog 22 = some 53 := tf22.2.2.2.1
set_option maxHeartbeats 1000000 in
theorem lentsEt_pure (l : List Ent) (hl : l.length <= 1000000000) : Pure Tryz.prog G 36 [rowOf Ent.enc l] (lentsEt l) := by
 refine Pure.of_le fun σ => ?_
 have hw0 : IntKind.i64.wrap ((l.length : Int) + 12) = l.length + 12 := wrap_nat (by omega) (by omega)
 have has : asrc Tryz.prog 22 (rowOf Ent.enc l) = some (l.map Ent.enc) := asrc_sl tlEtE
 refine Tri.of_awp mixed Tryz.func36 rfl (by kernel_rfl) (by kernel_rfl) (by simp [Tryz.ntmps36]) Tryz.results36 ?_
 simp -dsimp only [↓bp, bq, br, seval, tbCodLent, hw0]
 refine make_buf tlEtN (by omega) (by omega) (AS.le.refl σ) (fun v σ1 hB1 hx1 => ?_)
 repeat' (first | refine xs ?_ ?_ <;> intros | (refine wn ?_; intro bx hbx; try simp only [fb] at hbx) | (refine app_buf (ys := l.map Ent.enc) hB1 tlEtN has flatEt_l (by simp only [List.length_map, List.length_nil]; omega) (fun v2 σ2 hB2 hx2 => ?_)) | refine wj ?_ | simp -dsimp only [↓bp, bq, br, seval, tbCodLent, *] | refine wz ?_ | fail)
 rw [List.nil_append] at hB2
 refine loop_intro (fun n e σ' => ∃ (i : Nat) (v : AV), i <= 12 /\ n = 12 - i /\ e 4 = .int .i64 i /\ e 3 = v /\ Buf 5 σ σ' v (l.map Ent.enc ++ marksToEt 1 i)) 12
  ⟨0, v2, by omega, by omega, by first | (simp -dsimp only [↓bp, bq, br, seval, tbCodLent]; done) | (simp -dsimp only [↓bp, bq, br, seval, tbCodLent]; try rfl), by first | (simp -dsimp only [↓bp, bq, br, seval, tbCodLent]; done) | (simp -dsimp only [↓bp, bq, br, seval, tbCodLent]; try rfl), by simpa [marksToEt] using hB2⟩ ?_
 clear hB1 hB2 has
 rintro n e2 σ3 ⟨i, v3, hi2, rfl, h6, h3', hB3⟩
 simp -dsimp only [↓bp, bq, br, seval, tbCodLent] at h6 h3'
 by_cases hlt : (i : Int) < 12
 ·have hp := mkEt_pure G 1 i
  have hlt2 := eq_true hlt
  have hwi : IntKind.i64.wrap ((i : Int) + 1) = ((i + 1 : Nat) : Int) := by rw [wrap_nat (by omega) (by omega)]; rfl
  have hlen : (l.map Ent.enc ++ marksToEt 1 i).length <= 1000000012 := by rw [List.length_append, List.length_map, marksToEt_len]; omega
  repeat' (first | refine xs ?_ ?_ <;> intros | (refine wn ?_; intro bx hbx; try simp only [fb] at hbx) | refine wp hp ?_ | (refine build_one tlEtN (Ent.isv_enc _) (by rw [Ent.flat_enc]; rfl) (by omega) ?_) | (refine app_buf (ys := [(mkEt 1 (i : Int)).enc]) hB3 tlEtN (asrc_sl tlEtE) (fun a ha => by simp at ha; subst ha; rw [Ent.flat_enc]; rfl) (by simp only [List.length_cons, List.length_nil]; omega) (fun v4 σ4 hB4 hx4 => ?_)) | refine wj ?_ | simp -dsimp only [↓bp, bq, br, seval, tbCodLent, *] | refine wz ?_ | fail)
  all_goals exact ⟨12 - (i + 1), by omega, i + 1, v4, by omega, rfl, rfl, rfl, by rw [marksToEt_succ, <- List.append_assoc]; exact hB4⟩
 ·have : i = 12 := by omega
  subst this
  have hlt2 : (((12 : Nat) : Int) < 12) = False := by simp
  rcases hB3.isNil with ⟨hn, _⟩ | ⟨b, hb⟩
  ·have := congrArg List.length hn; simp [marksToEt_len] at this
  ·subst hb
   repeat' (first | refine xs ?_ ?_ <;> intros | (refine wn ?_; intro bx hbx; try simp only [fb] at hbx) | refine wj ?_ | simp -dsimp only [↓bp, bq, br, seval, tbCodLent, *] | refine wz ?_ | fail)
   try refine slW_bo ?_
   refine piece (l := 0) (h := l.length) tlEtE tf53.1 rfl (by simp [abnd]) (by omega) (by simp) (fun a ha => ?_) (fun g' => ?_)
   ·rw [List.append_nil] at ha
    cases hB3 with
    | own _ _ _ _ _ hx => exact hx a ha
   ·simp -dsimp only [↓bp, bq, br, seval, tbCodLent, h6, h3']
    refine finish_le ?_ hB3.le
    have e1 : (l.map Ent.enc ++ marksToEt 1 12).take l.length = l.map Ent.enc := by
     rw [List.take_append_of_le_length (by simp), List.take_of_length_le (by simp)]
    have e2 : (l.map Ent.enc ++ marksToEt 1 12).drop l.length = marksEt := by
     rw [List.drop_append_of_le_length (by simp), List.drop_eq_nil_of_le (by simp)]; rfl
    rw [e1, e2]
    exact Le.gh
theorem sl_lentsEt {t : TypeId} (l : List Ent) (h : Int) (hh : h = l.length + 12) (ht : t = 22) {K : AV -> Prop} {d : Dum K} (hK : ∀ g, K (.sl g (l.map Ent.enc ++ marksEt) [])) : bo (aslice Tryz.prog t (lentsEt l) none (some (.int .i64 h))) K d := by
 subst hh ht
 refine piece (l := 0) (h := l.length + 12) tlEtE tf53.1 rfl (by simp [abnd]; omega) (by omega) (by simp [marksEt, marksToEt_len]) (fun a ha => ?_) (fun g' => ?_)
 ·rcases List.mem_append.1 ha with ha | ha
  ·exact flatEt_l a ha
  ·obtain ⟨i, _, rfl⟩ := List.mem_map.1 ha
   rw [Ent.flat_enc]; rfl
 ·have e1 : ((l.map Ent.enc ++ marksEt).take (l.length + 12)).drop 0 = l.map Ent.enc ++ marksEt := by
   rw [List.drop_zero, List.take_of_length_le (by simp [marksEt, marksToEt_len])]
  have e2 : (l.map Ent.enc ++ marksEt).drop (l.length + 12) = [] := List.drop_eq_nil_of_le (by simp [marksEt, marksToEt_len])
  rw [e1, e2]
  have hml : marksEt.length = 12 := by simp [marksEt, marksToEt_len]
  unfold slim
  split
  ·rename_i heq _
   have h2 : marksEt = [] := by injection heq
   rw [h2] at hml
   cases hml
  ·exact hK g'
theorem sl_lentsEt_len {P : Program} {t : TypeId} (l : List Ent) : ablt P .len #[t] [lentsEt l] = if (el P t).isSome then some (.int .i64 l.length) else none := by
 simp [lentsEt, l_sl]
set_option maxHeartbeats 1000000 in
theorem keptsEt_pure (l : List Ent) (hl : l.length <= 1000000000) : Pure Tryz.prog G 55 [lentsEt l, rowOf Ent.enc l] (.bool true) := by
 intro σ
 have hw0 : IntKind.i64.wrap ((l.length : Int) + 12) = l.length + 12 := wrap_nat (by omega) (by omega)
 have hml : marksEt.length = 12 := by simp [marksEt, marksToEt_len]
 refine Tri.of_awp mixed Tryz.func55 rfl (by kernel_rfl) (by kernel_rfl) (by simp [Tryz.ntmps55]) Tryz.results55 ?_
 simp -dsimp only [↓bp, bq, br, seval, tbCodLent, hw0, sl_lentsEt_len]
 try refine slW_bo ?_
 refine sl_lentsEt l _ rfl rfl fun g => ?_
 simp -dsimp only [↓bp, bq, br, seval, tbCodLent]
 refine loop_intro (fun n e σ' => ∃ i : Nat, i <= ((l.map Ent.enc ++ marksEt)).length /\ n = ((l.map Ent.enc ++ marksEt)).length - i /\ e 6 = .int .i64 i /\ σ.le σ') ((l.map Ent.enc ++ marksEt)).length
   ⟨0, by omega, by omega, by simp -dsimp only [↓bp, bq, br, seval, tbCodLent]; first | done | rfl, AS.le.refl σ⟩ ?_
 rintro n v σ' ⟨i, hi, rfl, h6, hle⟩
 simp -dsimp only [↓bp, bq, br, seval, tbCodLent] at h6
 simp -dsimp only [↓bp, bq, br, seval, tbCodLent, h6]
 refine condW_dec (fun hlt => ?_) (fun hge => ?_)
 ·have hl3 : i < l.length + 12 := by rw [List.length_append, List.length_map, hml] at hlt; omega
  by_cases hi2 : (i : Int) < l.length
  ·obtain ⟨k, hk⟩ : ∃ k, l[i]? = some k := ⟨_, List.getElem?_eq_getElem (by omega)⟩
   have hx : (l.map Ent.enc ++ marksEt)[i]? = some k.enc := by rw [List.getElem?_append_left (by simp; omega), List.getElem?_map, hk]; rfl
   have hge : ((l.length : Int) <= i) = False := eq_false (by omega)
   have hi2' := eq_true hi2
   have hq := eqlEt k
   clear hi hlt hi2
   repeat' (first | refine xs ?_ ?_ <;> intros | (refine wn ?_; intro bx hbx; try simp only [fb] at hbx) | refine wj ?_ | simp -dsimp only [↓bp, bq, br, seval, tbCodLent, isv_lentsEt, flat_lentsEt, sl_lentsEt_len, *] | refine wz ?_ | fail)
   all_goals (have hl2 : (l.map Ent.enc ++ marksEt).length = l.length + 12 := by simp [hml])
   all_goals exact ⟨(l.map Ent.enc ++ marksEt).length - (i + 1), by omega, i + 1, by omega, rfl, by rw [wrap_nat (by omega) (by omega)]; rfl⟩
  ·have hx : (l.map Ent.enc ++ marksEt)[i]? = some (mkEt 1 ((i - l.length : Nat) : Int)).enc := by
    rw [List.getElem?_append_right (by simp; omega), List.length_map]
    have : i - l.length < 12 := by omega
    simp [marksEt, marksToEt, this]
   have hge : ((l.length : Int) <= i) = True := eq_true (by omega)
   have hi2' := eq_false hi2
   have hw1 : IntKind.i64.wrap ((i : Int) - l.length) = ((i - l.length : Nat) : Int) := by rw [wrap_nat (by omega) (by omega)]; omega
   have hp := mkEt_pure G 1 ((i - l.length : Nat) : Int)
   have hq := eqlEt (mkEt 1 ((i - l.length : Nat) : Int))
   clear hi hlt hi2
   repeat' (first | refine xs ?_ ?_ <;> intros | (refine wn ?_; intro bx hbx; try simp only [fb] at hbx) | refine wp hp ?_ | refine wj ?_ | simp -dsimp only [↓bp, bq, br, seval, tbCodLent, isv_lentsEt, flat_lentsEt, sl_lentsEt_len, *] | refine wz ?_ | fail)
   all_goals (have hl2 : (l.map Ent.enc ++ marksEt).length = l.length + 12 := by simp [hml])
   all_goals exact ⟨(l.map Ent.enc ++ marksEt).length - (i + 1), by omega, i + 1, by omega, rfl, by rw [wrap_nat (by omega) (by omega)]; rfl⟩
 ·have : i = (l.map Ent.enc ++ marksEt).length := by omega
  subst this
  clear hi hge
  repeat' (first | refine xs ?_ ?_ <;> intros | (refine wn ?_; intro bx hbx; try simp only [fb] at hbx) | refine wj ?_ | simp -dsimp only [↓bp, bq, br, seval, tbCodLent, *] | refine wz ?_ | fail)
  all_goals rfl
def mkIs (k i : Int) : Ins := { op := 0, a := markI k i, b := 0, c := 0, n := 0, l := 0, text := [], slots := [] }
theorem mkIs_pure (k i : Int) : Pure Tryz.prog G 74 [.int .i64 k, .int .i64 i] (mkIs k i).enc := by
 refine Pure.tellLess (v := .agg [.int .u8 0, .int .i64 (markI k i), .int .i64 0, .int .i64 0, .int .i64 0, .int .i64 0, .str [], .nil]) ?_ ?_
 ·intro σ
  refine Tri.of_awp mixed Tryz.func74 rfl (by kernel_rfl) (by kernel_rfl) (by simp [Tryz.ntmps74]) Tryz.results74 ?_
  repeat' (first | refine xs ?_ ?_ <;> intros | (refine wn ?_; intro bx hbx; try simp only [fb] at hbx) | refine Pure.use (by apply mark_pure <;> (first | assumption | omega | (simp only [*]; done))) ?_ | refine wj ?_ | simp -dsimp only [↓bp, bq, br, seval, tbCodLent, *] | refine wz ?_ | fail)
  all_goals rfl
 ·rw [<- Ins.fold_enc]
  exact Le.agg (.cons (Le.refl _) (.cons (Le.refl _) (.cons (Le.refl _) (.cons (Le.refl _) (.cons (Le.refl _) (.cons (Le.refl _) (.cons (Le.refl _) (.cons Le.nil .nil)))))))) (fun d hd => by simp at hd; rcases hd with rfl | rfl | rfl | rfl | rfl | rfl | rfl | rfl <;> rfl)
def Ins.lent (i : Ins) : AV := i.kent
theorem Ins.flat_lent (x : Ins) : flat x.lent = [.int .u8 x.opI, .int .i64 x.a, .int .i64 x.b, .int .i64 x.c, .int .i64 x.n, .int .i64 x.l, .str x.text, kentI x.slots] := by simp only [Ins.lent, Ins.kent, flat]
theorem Ins.isv_lent (x : Ins) : isv x.lent = true := by simp only [Ins.lent, Ins.kent, isv]
theorem Ins.fold_lent (x : Ins) : AV.agg [.int .u8 x.opI, .int .i64 x.a, .int .i64 x.b, .int .i64 x.c, .int .i64 x.n, .int .i64 x.l, .str x.text, kentI x.slots] = x.lent := by simp only [Ins.lent, Ins.kent]
theorem lentIs_leE (x : Ins) : LeE x.lent x.enc := by
 refine ⟨?_, x.isv_enc, x.ones⟩
 rw [x.flat_lent, x.flat_enc]
 exact .cons (Le.refl _) (.cons (Le.refl _) (.cons (Le.refl _) (.cons (Le.refl _) (.cons (Le.refl _) (.cons (Le.refl _) (.cons (Le.refl _) (.cons (kentI_le _) .nil)))))))
theorem own_lendC {σ : AS} {i : Ins} {b : Nat} (hb : σ.box b = some (i.slots.map intA ++ imarks)) : Lend G σ (i.own b) i.kent := by
 have h := Lend.row (G := G) (σ := σ) (b := b) (s := 1) (E := 3) (cs := i.slots.map intA ++ imarks) (ds := i.slots.map intA ++ imarks) hb (by rw [List.take_length]; exact Lends.ids _) (Nat.le_refl _) (xs := i.slots.map intA) (sp := imarks) (im_flat _ _) (by omega) (fun e he => by
  rcases List.mem_append.1 he with he | he
  ·obtain ⟨x, _, rfl⟩ := List.mem_map.1 he
   exact ⟨rfl, rfl, fun c hc => by simp [intA, flat] at hc; subst hc; rfl⟩
  ·obtain ⟨x, _, rfl⟩ := List.mem_map.1 he
   exact ⟨rfl, rfl, fun c hc => by simp [imk, flat] at hc; subst hc; rfl⟩)
 rw [List.length_map] at h
 refine Lend.agg (.cons (Lend.id _) (.cons (Lend.id _) (.cons (Lend.id _) (.cons (Lend.id _) (.cons (Lend.id _) (.cons (Lend.id _) (.cons (Lend.id _) (.cons h .nil)))))))) (fun c hc => ?_)
 simp only [List.mem_cons, List.not_mem_nil, or_false] at hc
 rcases hc with rfl | rfl | rfl | rfl | rfl | rfl | rfl | rfl <;> rfl
theorem noTab_ints : ∀ l : List AV, (∀ a, a ∈ l -> noTab a = true) -> noTabs l = true
 | [], _ => rfl
 | a :: l, h => by simp only [noTabs, h a List.mem_cons_self, noTab_ints l fun b hb => h b (List.mem_cons_of_mem _ hb), Bool.and_self]
theorem noTab_kent (i : Ins) : noTab i.kent = true := by
 have h1 : noTabs (i.slots.map intA) = true := noTab_ints _ fun a ha => by obtain ⟨x, _, rfl⟩ := List.mem_map.1 ha; rfl
 have h2 : noTabs imarks = true := noTab_ints _ fun a ha => by obtain ⟨x, _, rfl⟩ := List.mem_map.1 ha; rfl
 simp only [Ins.kent, kentI, noTab, noTabs, h1, h2, Bool.and_self]
theorem lentIs_pure (i : Ins) (hi : i.bulk <= 1000000000) : Pure Tryz.prog G 19 [i.enc] i.lent := fun σ =>
 Tri.settle (noTab_kent i) ((lentIns_tri G i hi σ).mono fun r s ⟨b, hr, hA⟩ => by
  subst hr
  exact ⟨hA.le, own_lendC G (AS.minus_box hA.bx hA.b0 hA.t0)⟩)
theorem keptIs_pure (i : Ins) (hi : i.bulk <= 1000000000) : Pure Tryz.prog G 23 [i.lent, i.enc] (.bool true) := keptIns_pure G i hi
def marksToIs (k i : Nat) : List AV := (List.range i).map fun (i : Nat) => (mkIs k (i : Int)).enc
theorem marksToIs_succ (k i : Nat) : marksToIs k (i + 1) = marksToIs k i ++ [(mkIs k (i : Int)).enc] := by simp [marksToIs, List.range_succ]
theorem marksToIs_len (k i : Nat) : (marksToIs k i).length = i := by simp [marksToIs]
def marksIs : List AV := marksToIs 1 12
def lentsIs (l : List Ins) : AV := .sl .none (l.map Ins.lent) marksIs
theorem isv_lentsIs (l : List Ins) : isv (lentsIs l) = true := rfl
theorem flat_lentsIs (l : List Ins) : flat (lentsIs l) = [lentsIs l] := rfl
theorem lentsIs_le (l : List Ins) : Le (lentsIs l) (rowOf Ins.enc l) := Le.trans Le.spare (Le.sl (LeEs.map _ fun x _ => lentIs_leE x))
theorem flatIs_l {l : List Ins} : ∀ a, a ∈ l.map Ins.lent -> (flat a).length = 8 := fun a ha => by
 obtain ⟨x, _, rfl⟩ := List.mem_map.1 ha
 rw [x.flat_lent]; rfl
theorem tlIsN : aelt Tryz.prog 23 = some (39, 8, 88) := tf23.2.2.2.2.2.2
theorem tlIsE : el Tryz.prog 23 = some 39 := tf23.2.2.2.1
set_option maxHeartbeats 1000000 in
theorem lentsIs_pure (l : List Ins) (hl : l.length <= 1000000000) (hf : ∀ x, x ∈ l -> Pure Tryz.prog G 19 [x.enc] x.lent) : Pure Tryz.prog G 37 [rowOf Ins.enc l] (lentsIs l) := by
 refine Pure.of_le fun σ => ?_
 have hw0 : IntKind.i64.wrap ((l.length : Int) + 12) = l.length + 12 := wrap_nat (by omega) (by omega)
 refine Tri.of_awp mixed Tryz.func37 rfl (by kernel_rfl) (by kernel_rfl) (by simp [Tryz.ntmps37]) Tryz.results37 ?_
 simp -dsimp only [↓bp, bq, br, seval, tbCodLent, hw0]
 refine make_buf tlIsN (by omega) (by omega) (AS.le.refl σ) (fun v σ1 hB1 hx1 => ?_)
 simp -dsimp only [↓bp, bq, br, seval, tbCodLent]
 refine loop_intro (fun n e σ' => ∃ (i : Nat) (v : AV), i <= l.length /\ n = l.length - i /\ e 4 = .int .i64 i /\ e 3 = v /\ Buf 8 σ σ' v ((l.take i).map Ins.lent)) l.length
  ⟨0, v, by omega, by omega, by first | (simp -dsimp only [↓bp, bq, br, seval, tbCodLent]; done) | (simp -dsimp only [↓bp, bq, br, seval, tbCodLent]; try rfl), by first | (simp -dsimp only [↓bp, bq, br, seval, tbCodLent]; done) | (simp -dsimp only [↓bp, bq, br, seval, tbCodLent]; try rfl), by simpa using hB1⟩ ?_
 clear hB1 hx1
 rintro n e1 σ2 ⟨i, v2, hi, rfl, h4, h3, hB2⟩
 simp -dsimp only [↓bp, bq, br, seval, tbCodLent] at h4 h3
 by_cases hlt : (i : Int) < l.length
 ·obtain ⟨k, hk⟩ : ∃ k, l[i]? = some k := ⟨_, List.getElem?_eq_getElem (by omega)⟩
  have hp := hf k (List.mem_of_getElem? hk)
  have hlt' := eq_true hlt
  have hwi : IntKind.i64.wrap ((i : Int) + 1) = ((i + 1 : Nat) : Int) := by rw [wrap_nat (by omega) (by omega)]; rfl
  have hlen : ((l.take i).map Ins.lent).length <= 1000000000 := by rw [List.length_map, List.length_take]; omega
  clear hf hw0
  repeat' (first | refine xs ?_ ?_ <;> intros | (refine wn ?_; intro bx hbx; try simp only [fb] at hbx) | refine wp hp ?_ | (refine build_one tlIsN (Ins.isv_lent k) (by rw [k.flat_lent]; rfl) (by omega) ?_) | (refine app_buf (ys := [k.lent]) (hB2.newBox (by first | assumption | (simp only [*]; done)) _) tlIsN (asrc_sl tlIsE) (fun a ha => by simp at ha; subst ha; rw [k.flat_lent]; rfl) (by simp only [List.length_cons, List.length_nil]; omega) (fun v3 σ3 hB4 hx4 => ?_)) | (refine app_buf (ys := [k.lent]) hB2 tlIsN (asrc_sl tlIsE) (fun a ha => by simp at ha; subst ha; rw [k.flat_lent]; rfl) (by simp only [List.length_cons, List.length_nil]; omega) (fun v3 σ3 hB4 hx4 => ?_)) | refine wj ?_ | simp -dsimp only [↓bp, bq, br, seval, tbCodLent, Ins.flat_lent, Ins.isv_lent, Ins.fold_lent, *] | refine wz ?_ | fail)
  all_goals exact ⟨l.length - (i + 1), by omega, i + 1, v3, by omega, rfl, rfl, rfl, by rw [take_succ_get _ _ _ hk, List.map_append]; exact hB4⟩
 ·have : i = l.length := by omega
  subst this
  have hlt' := eq_false (Int.lt_irrefl (l.length : Int))
  rw [List.take_length] at hB2
  clear hf hlt hi
  repeat' (first | refine xs ?_ ?_ <;> intros | (refine wn ?_; intro bx hbx; try simp only [fb] at hbx) | refine wj ?_ | simp -dsimp only [↓bp, bq, br, seval, tbCodLent, *] | refine wz ?_ | fail)
  refine loop_intro (fun n e σ' => ∃ (i : Nat) (v : AV), i <= 12 /\ n = 12 - i /\ e 6 = .int .i64 i /\ e 3 = v /\ Buf 8 σ σ' v (l.map Ins.lent ++ marksToIs 1 i)) 12
   ⟨0, v2, by omega, by omega, by first | (simp -dsimp only [↓bp, bq, br, seval, tbCodLent]; done) | (simp -dsimp only [↓bp, bq, br, seval, tbCodLent]; try rfl), by first | (simp -dsimp only [↓bp, bq, br, seval, tbCodLent, h3]; done) | (simp -dsimp only [↓bp, bq, br, seval, tbCodLent, h3]; try rfl), by simpa [marksToIs] using hB2⟩ ?_
  rintro n e2 σ3 ⟨i, v3, hi2, rfl, h6, h3', hB3⟩
  simp -dsimp only [↓bp, bq, br, seval, tbCodLent] at h6 h3'
  by_cases hlt : (i : Int) < 12
  ·have hp := mkIs_pure G 1 i
   have hlt2 := eq_true hlt
   have hwi : IntKind.i64.wrap ((i : Int) + 1) = ((i + 1 : Nat) : Int) := by rw [wrap_nat (by omega) (by omega)]; rfl
   have hlen : (l.map Ins.lent ++ marksToIs 1 i).length <= 1000000012 := by rw [List.length_append, List.length_map, marksToIs_len]; omega
   clear hB2
   repeat' (first | refine xs ?_ ?_ <;> intros | (refine wn ?_; intro bx hbx; try simp only [fb] at hbx) | refine wp hp ?_ | (refine build_one tlIsN (Ins.isv_enc _) (by rw [Ins.flat_enc]; rfl) (by omega) ?_) | (refine app_buf (ys := [(mkIs 1 (i : Int)).enc]) hB3 tlIsN (asrc_sl tlIsE) (fun a ha => by simp at ha; subst ha; rw [Ins.flat_enc]; rfl) (by simp only [List.length_cons, List.length_nil]; omega) (fun v4 σ4 hB4 hx4 => ?_)) | refine wj ?_ | simp -dsimp only [↓bp, bq, br, seval, tbCodLent, *] | refine wz ?_ | fail)
   all_goals exact ⟨12 - (i + 1), by omega, i + 1, v4, by omega, rfl, rfl, rfl, by rw [marksToIs_succ, <- List.append_assoc]; exact hB4⟩
  ·have : i = 12 := by omega
   subst this
   have hlt2 : (((12 : Nat) : Int) < 12) = False := by simp
   clear hB2
   rcases hB3.isNil with ⟨hn, _⟩ | ⟨b, hb⟩
   ·have := congrArg List.length hn; simp [marksToIs_len] at this
   ·subst hb
    repeat' (first | refine xs ?_ ?_ <;> intros | (refine wn ?_; intro bx hbx; try simp only [fb] at hbx) | refine wj ?_ | simp -dsimp only [↓bp, bq, br, seval, tbCodLent, *] | refine wz ?_ | fail)
    try refine slW_bo ?_
    refine piece (l := 0) (h := l.length) tlIsE tf39.1 rfl (by simp [abnd]) (by omega) (by simp) (fun a ha => ?_) (fun g' => ?_)
    ·rw [List.append_nil] at ha
     cases hB3 with
     | own _ _ _ _ _ hx => exact hx a ha
    ·simp -dsimp only [↓bp, bq, br, seval, tbCodLent, h6, h3', h4]
     refine finish_le ?_ hB3.le
     have e1 : (l.map Ins.lent ++ marksToIs 1 12).take l.length = l.map Ins.lent := by
      rw [List.take_append_of_le_length (by simp), List.take_of_length_le (by simp)]
     have e2 : (l.map Ins.lent ++ marksToIs 1 12).drop l.length = marksIs := by
      rw [List.drop_append_of_le_length (by simp), List.drop_eq_nil_of_le (by simp)]; rfl
     rw [e1, e2]
     exact Le.gh
theorem sl_lentsIs {t : TypeId} (l : List Ins) (h : Int) (hh : h = l.length + 12) (ht : t = 23) {K : AV -> Prop} {d : Dum K} (hK : ∀ g, K (.sl g (l.map Ins.lent ++ marksIs) [])) : bo (aslice Tryz.prog t (lentsIs l) none (some (.int .i64 h))) K d := by
 subst hh ht
 refine piece (l := 0) (h := l.length + 12) tlIsE tf39.1 rfl (by simp [abnd]; omega) (by omega) (by simp [marksIs, marksToIs_len]) (fun a ha => ?_) (fun g' => ?_)
 ·rcases List.mem_append.1 ha with ha | ha
  ·exact flatIs_l a ha
  ·obtain ⟨i, _, rfl⟩ := List.mem_map.1 ha
   rw [Ins.flat_enc]; rfl
 ·have e1 : ((l.map Ins.lent ++ marksIs).take (l.length + 12)).drop 0 = l.map Ins.lent ++ marksIs := by
   rw [List.drop_zero, List.take_of_length_le (by simp [marksIs, marksToIs_len])]
  have e2 : (l.map Ins.lent ++ marksIs).drop (l.length + 12) = [] := List.drop_eq_nil_of_le (by simp [marksIs, marksToIs_len])
  rw [e1, e2]
  have hml : marksIs.length = 12 := by simp [marksIs, marksToIs_len]
  unfold slim
  split
  ·rename_i heq _
   have h2 : marksIs = [] := by injection heq
   rw [h2] at hml
   cases hml
  ·exact hK g'
theorem sl_lentsIs_len {P : Program} {t : TypeId} (l : List Ins) : ablt P .len #[t] [lentsIs l] = if (el P t).isSome then some (.int .i64 l.length) else none := by
 simp [lentsIs, l_sl]
set_option maxHeartbeats 1000000 in
theorem keptsIs_pure (l : List Ins) (hl : l.length <= 1000000000) (hf : ∀ x, x ∈ l -> Pure Tryz.prog G 23 [x.lent, x.enc] (.bool true)) (hsm : ∀ i : Int, Pure Tryz.prog G 34 [(mkIs 1 i).enc, (mkIs 1 i).enc] (.bool true)) : Pure Tryz.prog G 56 [lentsIs l, rowOf Ins.enc l] (.bool true) := by
 intro σ
 have hw0 : IntKind.i64.wrap ((l.length : Int) + 12) = l.length + 12 := wrap_nat (by omega) (by omega)
 have hml : marksIs.length = 12 := by simp [marksIs, marksToIs_len]
 refine Tri.of_awp mixed Tryz.func56 rfl (by kernel_rfl) (by kernel_rfl) (by simp [Tryz.ntmps56]) Tryz.results56 ?_
 simp -dsimp only [↓bp, bq, br, seval, tbCodLent, hw0, sl_lentsIs_len]
 try refine slW_bo ?_
 refine sl_lentsIs l _ rfl rfl fun g => ?_
 simp -dsimp only [↓bp, bq, br, seval, tbCodLent]
 refine loop_intro (fun n e σ' => ∃ i : Nat, i <= ((l.map Ins.lent ++ marksIs)).length /\ n = ((l.map Ins.lent ++ marksIs)).length - i /\ e 6 = .int .i64 i /\ σ.le σ') ((l.map Ins.lent ++ marksIs)).length
   ⟨0, by omega, by omega, by simp -dsimp only [↓bp, bq, br, seval, tbCodLent]; first | done | rfl, AS.le.refl σ⟩ ?_
 rintro n v σ' ⟨i, hi, rfl, h6, hle⟩
 simp -dsimp only [↓bp, bq, br, seval, tbCodLent] at h6
 simp -dsimp only [↓bp, bq, br, seval, tbCodLent, h6]
 refine condW_dec (fun hlt => ?_) (fun hge => ?_)
 ·have hl3 : i < l.length + 12 := by rw [List.length_append, List.length_map, hml] at hlt; omega
  by_cases hi2 : (i : Int) < l.length
  ·obtain ⟨k, hk⟩ : ∃ k, l[i]? = some k := ⟨_, List.getElem?_eq_getElem (by omega)⟩
   have hp := hf k (List.mem_of_getElem? hk)
   have hx : (l.map Ins.lent ++ marksIs)[i]? = some k.lent := by rw [List.getElem?_append_left (by simp; omega), List.getElem?_map, hk]; rfl
   have hge : ((l.length : Int) <= i) = False := eq_false (by omega)
   have hi2' := eq_true hi2
   clear hi hlt hf hsm hi2
   repeat' (first | refine xs ?_ ?_ <;> intros | (refine wn ?_; intro bx hbx; try simp only [fb] at hbx) | refine wp hp ?_ | refine wj ?_ | simp -dsimp only [↓bp, bq, br, seval, tbCodLent, Ins.flat_lent, Ins.isv_lent, Ins.fold_lent, isv_lentsIs, flat_lentsIs, sl_lentsIs_len, *] | refine wz ?_ | fail)
   all_goals (have hl2 : (l.map Ins.lent ++ marksIs).length = l.length + 12 := by simp [hml])
   all_goals exact ⟨(l.map Ins.lent ++ marksIs).length - (i + 1), by omega, i + 1, by omega, rfl, by rw [wrap_nat (by omega) (by omega)]; rfl⟩
  ·have hx : (l.map Ins.lent ++ marksIs)[i]? = some (mkIs 1 ((i - l.length : Nat) : Int)).enc := by
    rw [List.getElem?_append_right (by simp; omega), List.length_map]
    have : i - l.length < 12 := by omega
    simp [marksIs, marksToIs, this]
   have hge : ((l.length : Int) <= i) = True := eq_true (by omega)
   have hi2' := eq_false hi2
   have hw1 : IntKind.i64.wrap ((i : Int) - l.length) = ((i - l.length : Nat) : Int) := by rw [wrap_nat (by omega) (by omega)]; omega
   have hp := mkIs_pure G 1 ((i - l.length : Nat) : Int)
   have hq := hsm ((i - l.length : Nat) : Int)
   clear hi hlt hf hsm hi2
   repeat' (first | refine xs ?_ ?_ <;> intros | (refine wn ?_; intro bx hbx; try simp only [fb] at hbx) | refine wp hp ?_ | refine wp hq ?_ | refine wj ?_ | simp -dsimp only [↓bp, bq, br, seval, tbCodLent, Ins.flat_lent, Ins.isv_lent, Ins.fold_lent, isv_lentsIs, flat_lentsIs, sl_lentsIs_len, *] | refine wz ?_ | fail)
   all_goals (have hl2 : (l.map Ins.lent ++ marksIs).length = l.length + 12 := by simp [hml])
   all_goals exact ⟨(l.map Ins.lent ++ marksIs).length - (i + 1), by omega, i + 1, by omega, rfl, by rw [wrap_nat (by omega) (by omega)]; rfl⟩
 ·have : i = (l.map Ins.lent ++ marksIs).length := by omega
  subst this
  clear hi hge hf hsm
  repeat' (first | refine xs ?_ ?_ <;> intros | (refine wn ?_; intro bx hbx; try simp only [fb] at hbx) | refine wj ?_ | simp -dsimp only [↓bp, bq, br, seval, tbCodLent, *] | refine wz ?_ | fail)
  all_goals rfl
def Cod.lent (c : Cod) : AV := .agg [lentsEt c.entries, lentsIs c.instrs, lents c.consts]
theorem Cod.lent_le (c : Cod) : Le c.lent c.enc := by
 rw [<- Cod.fold_enc]
 exact Le.agg (.cons (lentsEt_le _) (.cons (lentsIs_le _) (.cons (lents_le _) .nil))) (fun d hd => by simp at hd; rcases hd with rfl | rfl | rfl <;> rfl)
set_option maxHeartbeats 2000000 in
theorem lentCod_pure (c : Cod) (hc : c.bulk <= 1000000000) : Pure Tryz.prog G 10 [c.enc] c.lent := by
 have h1 := lentsEt_pure G c.entries (by have := len_bulkL Ent.bulk_pos c.entries; unfold Cod.bulk at hc; omega)
 have h2 := lentsIs_pure G c.instrs (by have := len_bulkL Ins.bulk_pos c.instrs; unfold Cod.bulk at hc; omega) (fun x hx => lentIs_pure G x (by have := bulkL_mem (f := Ins.bulk) hx; unfold Cod.bulk at hc; omega))
 have h3 := lents_pure G c.consts (by have := len_le_bulks c.consts; unfold Cod.bulk at hc; omega) (fun x hx => lent_pure G x (by have := bulk_mem hx; unfold Cod.bulk at hc; omega))
 have he : c.lent = .agg [lentsEt c.entries, lentsIs c.instrs, lents c.consts] := rfl
 rw [he]
 clear hc he
 intro σ
 refine Tri.of_awp mixed Tryz.func10 rfl (by kernel_rfl) (by kernel_rfl) (by simp [Tryz.ntmps10]) Tryz.results10 ?_
 repeat' (first | refine xs ?_ ?_ <;> intros | (refine wn ?_; intro bx hbx; try simp only [fb] at hbx) | refine wp h1 ?_ | refine wp h2 ?_ | refine wp h3 ?_ | refine wj ?_ | simp -dsimp only [↓bp, bq, br, seval, tbCodLent, isv_lentsEt, flat_lentsEt, isv_lentsIs, flat_lentsIs, *] | refine wz ?_ | fail)
 all_goals rfl
set_option maxHeartbeats 2000000 in
theorem keptCod_pure (c : Cod) (hc : c.bulk <= 1000000000) : Pure Tryz.prog G 16 [c.lent, c.enc] (.bool true) := by
 have h0 := (sameCod_pure G c c hc hc).lessArgs (args := [c.lent, c.enc]) (.cons c.lent_le (.cons (Le.refl _) .nil))
 rw [decide_eq_true rfl] at h0
 have hsm : ∀ i : Int, Pure Tryz.prog G 34 [(mkIs 1 i).enc, (mkIs 1 i).enc] (.bool true) := fun i => by
  have := sameIns_pure G (mkIs 1 i) (mkIs 1 i) (by simp [mkIs, Ins.bulk]) (by simp [mkIs, Ins.bulk])
  rwa [decide_eq_true rfl] at this
 have h1 := keptsEt_pure G c.entries (by have := len_bulkL Ent.bulk_pos c.entries; unfold Cod.bulk at hc; omega)
 have h2 := keptsIs_pure G c.instrs (by have := len_bulkL Ins.bulk_pos c.instrs; unfold Cod.bulk at hc; omega) (fun x hx => keptIs_pure G x (by have := bulkL_mem (f := Ins.bulk) hx; unfold Cod.bulk at hc; omega)) hsm
 have h3 := kepts_pure G c.consts (by have := len_le_bulks c.consts; unfold Cod.bulk at hc; omega) (fun x hx => kept_pure G x (by have := bulk_mem hx; unfold Cod.bulk at hc; omega))
 have he : c.lent = .agg [lentsEt c.entries, lentsIs c.instrs, lents c.consts] := rfl
 rw [he] at h0 ⊢
 clear hc hsm he
 intro σ
 refine Tri.of_awp mixed Tryz.func16 rfl (by kernel_rfl) (by kernel_rfl) (by simp [Tryz.ntmps16]) Tryz.results16 ?_
 repeat' (first | refine xs ?_ ?_ <;> intros | (refine wn ?_; intro bx hbx; try simp only [fb] at hbx) | refine wp h0 ?_ | refine wp h1 ?_ | refine wp h2 ?_ | refine wp h3 ?_ | refine wj ?_ | simp -dsimp only [↓bp, bq, br, seval, tbCodLent, isv_lentsEt, flat_lentsEt, isv_lentsIs, flat_lentsIs, *] | refine wz ?_ | fail)
 all_goals rfl
end Go.Proofs.YtjmdaeabllkgnaaGreatDoor
