/- Rows of limbs of the kit: the same, with marks in their spare room, whether they are as they were; a row cloned. -/
import Derived.Test.YtdhbdhopnpmboaaGreatDoorZ06
set_option linter.unusedVariables false
set_option linter.unusedSimpArgs false
set_option linter.defProp false
namespace Go.Proofs.YtdhbdhopnpmboaaGreatDoor
open Go Go.Av
section
def tbLims := And.intro (And.intro (And.intro @tf3 (And.intro @tf4 @tf5)) (And.intro @tf47 (And.intro @tf9 @tf23))) (And.intro (And.intro @isv_lims (And.intro @flat_lims @len_lims)) (And.intro @ix_lims (And.intro @ix_lims' @flat_limA)))
variable (G : Nat -> AV)
def markI (k i : Int) : Int := IntKind.i64.wrap (IntKind.i64.wrap (1000003 * IntKind.i64.wrap (k + 7)) + i)
theorem mark_pure (k i : Int) : Pure Tryz.prog G 70 [.int .i64 k, .int .i64 i] (.int .i64 (markI k i)) := by
 intro σ
 refine Tri.of_awp mixed Tryz.func70 rfl (by kernel_rfl) (by kernel_rfl) (by simp [Tryz.ntmps70]) Tryz.results70 ?_
 repeat' (first | refine xs ?_ ?_ <;> intros | (refine wn ?_; intro bx hbx; try simp only [fb] at hbx) | refine wj ?_ | simp -dsimp only [↓bp, bq, br, seval, tbLims, *] | refine wz ?_ | fail)
 all_goals rfl
theorem limA_ne {x y : UInt32} : ((x.toNat : Int) = (y.toNat : Int)) ↔ x = y := by
 constructor
 ·intro h; exact UInt32.toNat_inj.1 (by omega)
 ·rintro rfl; rfl
theorem take_next {α : Type} {l r : List α} {i : Nat} {x : α} (h : l.take i = r.take i) (hl : l[i]? = some x) (hr : r[i]? = some x) : l.take (i + 1) = r.take (i + 1) := by
 rw [take_succ_get _ _ _ hl, take_succ_get _ _ _ hr, h]
theorem take_all {α : Type} {l r : List α} (hl : l.length = r.length) (h : l.take l.length = r.take l.length) : l = r := by
 rw [List.take_length] at h
 rw [h, hl, List.take_length]
theorem samelims_pure (l r : List UInt32) (hl : l.length <= 1000000000) (hr : r.length <= 1000000000) : Pure Tryz.prog G 57 [lims l, lims r] (.bool (decide (l = r))) := by
 intro σ
 refine Tri.of_awp mixed Tryz.func57 rfl (by kernel_rfl) (by kernel_rfl) (by simp [Tryz.ntmps57]) Tryz.results57 ?_
 repeat' (first | refine xs ?_ ?_ <;> intros | (refine wn ?_; intro bx hbx; try simp only [fb] at hbx) | refine wj ?_ | simp -dsimp only [↓bp, bq, br, seval, tbLims, *] | refine wz ?_ | fail)
 rotate_right
 ·skip
  refine loop_keep mixed (fun n e => ∃ i : Nat, i <= (l).length /\ n = (l).length - i /\ e 5 = .int .i64 i /\ l.take i = r.take i) (l).length
    ⟨0, by omega, by omega, by simp -dsimp only [↓bp, bq, br, seval, tbLims]; first | done | rfl, rfl⟩ ?_
  rintro n v ⟨i, hi, rfl, h5, htk⟩
  simp -dsimp only [↓bp, bq, br, seval, tbLims] at h5
  simp -dsimp only [↓bp, bq, br, seval, tbLims, h5]
  refine condW_dec (fun hlt => ?_) (fun hge => ?_)
  ·obtain ⟨x, hx⟩ : ∃ x, l[i]? = some x := ⟨_, List.getElem?_eq_getElem (by omega)⟩
   obtain ⟨y, hy⟩ : ∃ y, r[i]? = some y := ⟨_, List.getElem?_eq_getElem (by omega)⟩
   clear hi hlt
   repeat' (first | refine xs ?_ ?_ <;> intros | (refine wn ?_; intro bx hbx; try simp only [fb] at hbx) | refine wj ?_ | simp -dsimp only [↓bp, bq, br, seval, tbLims, limA, *] | refine wz ?_ | fail)
   ·have hxy : l ≠ r := fun e => by subst e; rw [hx] at hy; simp only [Option.some.injEq] at hy; subst hy; simp_all
    simp [hxy]
   ·have hxy : x = y := limA_ne.1 (by simp_all)
    subst hxy
    have hlt := (List.getElem?_eq_some_iff.1 hx).1
    exact ⟨l.length - (i + 1), by omega, i + 1, by omega, rfl, by rw [wrap_nat (by omega) (by omega)]; rfl, take_next htk hx hy⟩
  ·have : i = l.length := by omega
   subst this
   have hlr : l = r := take_all (by omega) htk
   clear hi hge
   repeat' (first | refine xs ?_ ?_ <;> intros | (refine wn ?_; intro bx hbx; try simp only [fb] at hbx) | refine wj ?_ | simp -dsimp only [↓bp, bq, br, seval, tbLims, *] | refine wz ?_ | fail)
   all_goals simp [hlr]
 ·have : l ≠ r := fun e => by subst e; simp_all
  simp [this]
def lmk (i : Int) : AV := .int .u32 (IntKind.u32.wrap (markI 1 i))
def lmarksTo (i : Nat) : List AV := (List.range i).map fun (i : Nat) => lmk (i : Int)
theorem lmarksTo_succ (i : Nat) : lmarksTo (i + 1) = lmarksTo i ++ [lmk (i : Int)] := by simp [lmarksTo, List.range_succ]
theorem lmarksTo_len (i : Nat) : (lmarksTo i).length = i := by simp [lmarksTo]
def lmarks : List AV := lmarksTo 12
def lentLims (l : List UInt32) : AV := .sl .none (l.map limA) lmarks
theorem isv_lentLims (l : List UInt32) : isv (lentLims l) = true := rfl
theorem flat_lentLims (l : List UInt32) : flat (lentLims l) = [lentLims l] := rfl
theorem lentLims_le (l : List UInt32) : Le (lentLims l) (lims l) := Le.spare
theorem tfL : aelt Tryz.prog 23 = some (47, 1, 4) := tf23.2.2.2.2.2.2
theorem tfLE : el Tryz.prog 23 = some 47 := tf23.2.2.2.1
theorem len_lentLims {P : Program} {t : TypeId} (l : List UInt32) : ablt P .len #[t] [lentLims l] = if (el P t).isSome then some (.int .i64 l.length) else none := by
 simp [lentLims, l_sl]
theorem sl_lentLims {t : TypeId} (l : List UInt32) (h : Int) (hh : h = l.length + 12) (ht : t = 23) {K : AV -> Prop} {d : Dum K} (hK : ∀ g, K (.sl g (l.map limA ++ lmarks) [])) : bo (aslice Tryz.prog t (lentLims l) none (some (.int .i64 h))) K d := by
 subst hh ht
 refine piece (l := 0) (h := l.length + 12) tfLE tf47.1 rfl (by simp [abnd]; omega) (by omega) (by simp [lmarks, lmarksTo_len]) (fun a ha => ?_) (fun g' => ?_)
 ·rcases List.mem_append.1 ha with ha | ha
  ·exact flat1 a ha
  ·obtain ⟨i, _, rfl⟩ := List.mem_map.1 ha
   rfl
 ·have e1 : ((l.map limA ++ lmarks).take (l.length + 12)).drop 0 = l.map limA ++ lmarks := by
   rw [List.drop_zero, List.take_of_length_le (by simp [lmarks, lmarksTo_len])]
  have e2 : (l.map limA ++ lmarks).drop (l.length + 12) = [] := List.drop_eq_nil_of_le (by simp [lmarks, lmarksTo_len])
  rw [e1, e2]
  have hml : lmarks.length = 12 := by simp [lmarks, lmarksTo_len]
  unfold slim
  split
  ·rename_i heq _
   have h2 : lmarks = [] := by injection heq
   rw [h2] at hml
   cases hml
  ·exact hK g'
theorem keptlims_pure (l : List UInt32) (hl : l.length <= 1000000000) : Pure Tryz.prog G 51 [lentLims l, lims l] (.bool true) := by
 intro σ
 have hw0 : IntKind.i64.wrap ((l.length : Int) + 12) = l.length + 12 := wrap_nat (by omega) (by omega)
 have hml : lmarks.length = 12 := by simp [lmarks, lmarksTo_len]
 refine Tri.of_awp mixed Tryz.func51 rfl (by kernel_rfl) (by kernel_rfl) (by simp [Tryz.ntmps51]) Tryz.results51 ?_
 simp -dsimp only [↓bp, bq, br, seval, tbLims, hw0, len_lentLims]
 try refine slW_bo ?_
 refine sl_lentLims l _ rfl rfl fun g => ?_
 simp -dsimp only [↓bp, bq, br, seval, tbLims]
 refine loop_intro (fun n e σ' => ∃ i : Nat, i <= ((l.map limA ++ lmarks)).length /\ n = ((l.map limA ++ lmarks)).length - i /\ e 6 = .int .i64 i /\ σ.le σ') ((l.map limA ++ lmarks)).length
   ⟨0, by omega, by omega, by simp -dsimp only [↓bp, bq, br, seval, tbLims]; first | done | rfl, AS.le.refl σ⟩ ?_
 rintro n v σ' ⟨i, hi, rfl, h6, hle⟩
 simp -dsimp only [↓bp, bq, br, seval, tbLims] at h6
 simp -dsimp only [↓bp, bq, br, seval, tbLims, h6]
 refine condW_dec (fun hlt => ?_) (fun hge => ?_)
 ·have hl3 : i < l.length + 12 := by rw [List.length_append, List.length_map, hml] at hlt; omega
  by_cases hi2 : (i : Int) < l.length
  ·obtain ⟨k, hk⟩ : ∃ k, l[i]? = some k := ⟨_, List.getElem?_eq_getElem (by omega)⟩
   have hx : (l.map limA ++ lmarks)[i]? = some (limA k) := by rw [List.getElem?_append_left (by simp; omega), List.getElem?_map, hk]; rfl
   have hge : ¬ (l.length : Int) <= i := by omega
   clear hi hlt
   repeat' (first | refine xs ?_ ?_ <;> intros | (refine wn ?_; intro bx hbx; try simp only [fb] at hbx) | refine wj ?_ | simp -dsimp only [↓bp, bq, br, seval, tbLims, limA, isv_lentLims, flat_lentLims, len_lentLims, *] | refine wz ?_ | fail)
   all_goals (have hl2 : (l.map limA ++ lmarks).length = l.length + 12 := by simp [hml])
   all_goals exact ⟨(l.map limA ++ lmarks).length - (i + 1), by omega, i + 1, by omega, rfl, by rw [wrap_nat (by omega) (by omega)]; rfl⟩
  ·have hx : (l.map limA ++ lmarks)[i]? = some (lmk ((i - l.length : Nat) : Int)) := by
    rw [List.getElem?_append_right (by simp; omega), List.length_map]
    have : i - l.length < 12 := by omega
    simp [lmarks, lmarksTo, this]
   have hge : (l.length : Int) <= i := by omega
   have hw1 : IntKind.i64.wrap ((i : Int) - l.length) = ((i - l.length : Nat) : Int) := by rw [wrap_nat (by omega) (by omega)]; omega
   clear hi hlt
   repeat' (first | refine xs ?_ ?_ <;> intros | (refine wn ?_; intro bx hbx; try simp only [fb] at hbx) | refine Pure.use (mark_pure G 1 _) ?_ | refine Pure.head (mark_pure G 1 _) ?_ | refine wj ?_ | simp -dsimp only [↓bp, bq, br, seval, tbLims, lmk, isv_lentLims, flat_lentLims, len_lentLims, *] | refine wz ?_ | fail)
   all_goals (have hl2 : (l.map limA ++ lmarks).length = l.length + 12 := by simp [hml])
   all_goals exact ⟨(l.map limA ++ lmarks).length - (i + 1), by omega, i + 1, by omega, rfl, by rw [wrap_nat (by omega) (by omega)]; rfl⟩
 ·have : i = (l.map limA ++ lmarks).length := by omega
  subst this
  clear hi hge
  repeat' (first | refine xs ?_ ?_ <;> intros | (refine wn ?_; intro bx hbx; try simp only [fb] at hbx) | refine wj ?_ | simp -dsimp only [↓bp, bq, br, seval, tbLims, *] | refine wz ?_ | fail)
  all_goals rfl
theorem clone_tri (l : List UInt32) (hl : l.length <= 1000000000) (σ : AS) : Tri Tryz.prog G 49 [lims l] σ fun r σ' => Le r (lims l) /\ σ' = σ := by
 have key : ∀ x, (∀ op t, (el Tryz.prog t).isSome = true -> abin Tryz.prog op t x .nil = aeq op false) -> asrc Tryz.prog 23 x = some (l.map limA) -> Tri Tryz.prog G 49 [x] σ fun r σ' => Le r (lims l) /\ σ' = σ := by
  intro x h1 h2
  have h3 := h1 .eql 23 (by rw [tfLE]; rfl)
  refine Tri.of_awp mixed Tryz.func49 rfl (by kernel_rfl) (by kernel_rfl) (by simp [Tryz.ntmps49]) Tryz.results49 ?_
  simp -dsimp only [↓bp, bq, br, seval, tbLims, h3]
  refine build_none tfL ?_
  simp -dsimp only [↓bp, bq, br, seval, tbLims]
  refine app_full (σ0 := σ) (AS.le.refl σ) (fun a ha => by cases ha) tfL h2 flat1 (by simp; omega) (fun he => ?_) (fun v σ1 hB hx => ?_)
  ·simp -dsimp only [↓bp, bq, br, seval, tbLims]
   have e : lims l = .sl .none [] [] := by unfold lims; rw [he]
   rw [e]
   exact finish_le Le.gh (AS.le.refl σ)
  ·simp -dsimp only [↓bp, bq, br, seval, tbLims]
   exact finish_le hB.told hB.le
 cases l with
 | nil =>
  refine Tri.nil_or ?_ fun a c => ?_
  ·refine Tri.of_awp mixed Tryz.func49 rfl (by kernel_rfl) (by kernel_rfl) (by simp [Tryz.ntmps49]) Tryz.results49 ?_
   simp -dsimp only [↓bp, bq, br, seval, tbLims]
   exact finish_le Le.nil (AS.le.refl σ)
  ·exact key _ (fun op t h => by rw [abin_raw_nil, if_pos h]) (by simp [asrc, tfLE])
 | cons x l => exact key _ (fun op t h => by simp [lims, abin, isNil, h]) (asrc_sl tfLE)
end
set_option maxRecDepth 20000
section
def tbTermKit := And.intro (And.intro (And.intro (And.intro @tf3 @tf4) (And.intro @tf5 (And.intro @tf47 @tf9))) (And.intro (And.intro @tf23 (And.intro @tf22 @tf24)) (And.intro @tf26 (And.intro @Term.flat_enc @Term.isv_enc)))) (And.intro (And.intro (And.intro @Term.fold_enc (And.intro @isv_encs @flat_encs)) (And.intro @len_encs (And.intro @ix_encs @ix_encs'))) (And.intro (And.intro @isv_lims (And.intro @flat_lims @len_lims)) (And.intro @ix_lims (And.intro @ix_lims' @flat_limA))))
variable (G : Nat -> AV)
mutual
def same : Term -> Term -> Bool
 | .mk k g l s n ks ts, u => decide ((k.toNat : Int) = u.knd) && (g == u.neg) && decide (l = u.limbs) && decide (s = u.text) && decide (n = u.num) && sames ks u.items && sames ts u.tail
def sames : List Term -> List Term -> Bool
 | [], [] => true
 | a :: l, b :: r => same a b && sames l r
 | _, _ => false
end
theorem same_eq (t u : Term) : same t u = (decide (t.knd = u.knd) && (t.neg == u.neg) && decide (t.limbs = u.limbs) && decide (t.text = u.text) && decide (t.num = u.num) && sames t.items u.items && sames t.tail u.tail) := by
 cases t; rw [same]; rfl
theorem sames_iff_of {l : List Term} (h : ∀ t, t ∈ l -> ∀ u, same t u = true ↔ t = u) : ∀ r, sames l r = true ↔ l = r := by
 induction l with
 | nil => intro r; cases r <;> simp [sames]
 | cons a l ih =>
  intro r
  cases r with
  | nil => simp [sames]
  | cons b r => simp only [sames, Bool.and_eq_true, h a (by simp) b, ih (fun t ht => h t (by simp [ht])) r, List.cons.injEq]
theorem same_iff (t : Term) : ∀ u, same t u = true ↔ t = u := by
 refine Term.ind (P := fun t => ∀ u, same t u = true ↔ t = u) (fun t h1 h2 u => ?_) t
 rw [same_eq]
 simp only [Bool.and_eq_true, decide_eq_true_eq, beq_iff_eq, sames_iff_of h1, sames_iff_of h2]
 constructor
 ·rintro ⟨⟨⟨⟨⟨⟨h, rfl2⟩, h3⟩, h4⟩, h5⟩, h6⟩, h7⟩
  cases t; cases u
  simp only [Term.knd, Term.kind, Term.neg, Term.limbs, Term.text, Term.num, Term.items, Term.tail] at *
  simp only [Term.mk.injEq]
  exact ⟨UInt8.toNat_inj.1 (by omega), rfl2, h3, h4, h5, h6, h7⟩
 ·rintro rfl; simp
theorem sames_iff (l r : List Term) : sames l r = true ↔ l = r := sames_iff_of (fun t _ => same_iff t) r
theorem sames_dec (l r : List Term) (h : l ≠ r) : sames l r = false := by
 cases hs : sames l r with
 | false => rfl
 | true => exact absurd ((sames_iff l r).1 hs) h
theorem samess_pure (l r : List Term) (hl : l.length <= 1000000000) (hr : r.length <= 1000000000) (hf : ∀ x, x ∈ l -> ∀ y, y ∈ r -> Pure Tryz.prog G 18 [x.enc, y.enc] (.bool (same x y))) : Pure Tryz.prog G 58 [encs l, encs r] (.bool (sames l r)) := by
 intro σ
 refine Tri.of_awp mixed Tryz.func58 rfl (by kernel_rfl) (by kernel_rfl) (by simp [Tryz.ntmps58]) Tryz.results58 ?_
 repeat' (first | refine xs ?_ ?_ <;> intros | (refine wn ?_; intro bx hbx; try simp only [fb] at hbx) | refine wj ?_ | simp -dsimp only [↓bp, bq, br, seval, tbTermKit, *] | refine wz ?_ | fail)
 rotate_right
 ·skip
  refine loop_keep mixed (fun n e => ∃ i : Nat, i <= (l).length /\ n = (l).length - i /\ e 5 = .int .i64 i /\ l.take i = r.take i) (l).length
    ⟨0, by omega, by omega, by simp -dsimp only [↓bp, bq, br, seval, tbTermKit]; first | done | rfl, rfl⟩ ?_
  rintro n v ⟨i, hi, rfl, h5, htk⟩
  simp -dsimp only [↓bp, bq, br, seval, tbTermKit] at h5
  simp -dsimp only [↓bp, bq, br, seval, tbTermKit, h5]
  refine condW_dec (fun hlt => ?_) (fun hge => ?_)
  ·obtain ⟨x, hx⟩ : ∃ x, l[i]? = some x := ⟨_, List.getElem?_eq_getElem (by omega)⟩
   obtain ⟨y, hy⟩ : ∃ y, r[i]? = some y := ⟨_, List.getElem?_eq_getElem (by omega)⟩
   have hc := hf x (List.mem_of_getElem? hx) y (List.mem_of_getElem? hy)
   clear hi hlt hf
   repeat' (first | refine xs ?_ ?_ <;> intros | (refine wn ?_; intro bx hbx; try simp only [fb] at hbx) | refine wp hc ?_ | refine wj ?_ | simp -dsimp only [↓bp, bq, br, seval, tbTermKit, *] | refine wz ?_ | fail)
   ·have hxy : same x y = true := by assumption
    have hxy : x = y := (same_iff x y).1 hxy
    subst hxy
    have hlt := (List.getElem?_eq_some_iff.1 hx).1
    exact ⟨l.length - (i + 1), by omega, i + 1, by omega, rfl, by rw [wrap_nat (by omega) (by omega)]; rfl, take_next htk hx hy⟩
   ·have hxy : same x y = false := by assumption
    have : l ≠ r := fun e => by subst e; rw [hx] at hy; simp only [Option.some.injEq] at hy; subst hy; rw [(same_iff x x).2 rfl] at hxy; cases hxy
    rw [sames_dec _ _ this]
  ·have : i = l.length := by omega
   subst this
   have hlr : l = r := take_all (by omega) htk
   clear hi hge hf
   repeat' (first | refine xs ?_ ?_ <;> intros | (refine wn ?_; intro bx hbx; try simp only [fb] at hbx) | refine wj ?_ | simp -dsimp only [↓bp, bq, br, seval, tbTermKit, *] | refine wz ?_ | fail)
   all_goals (subst hlr; rw [(sames_iff l l).2 rfl])
 ·have : l ≠ r := fun e => by subst e; simp_all
  rw [sames_dec _ _ this]
theorem same_pure (t : Term) : ∀ u : Term, t.bulk <= 1000000000 -> u.bulk <= 1000000000 -> Pure Tryz.prog G 18 [t.enc, u.enc] (.bool (same t u)) := by
 refine Term.ind (P := fun t => ∀ u : Term, t.bulk <= 1000000000 -> u.bulk <= 1000000000 -> Pure Tryz.prog G 18 [t.enc, u.enc] (.bool (same t u))) (fun t ih1 ih2 u ht hu => ?_) t
 have h1 := samess_pure G t.items u.items (by have := len_items t; omega) (by have := len_items u; omega) (fun x hx y hy => ih1 x hx y (by have := bulk_item hx; omega) (by have := bulk_item hy; omega))
 have h2 := samess_pure G t.tail u.tail (by have := len_tail t; omega) (by have := len_tail u; omega) (fun x hx y hy => ih2 x hx y (by have := bulk_tail hx; omega) (by have := bulk_tail hy; omega))
 have h3 := samelims_pure G t.limbs u.limbs (by have := len_limbs t; omega) (by have := len_limbs u; omega)
 clear ih1 ih2 ht hu
 intro σ
 refine Tri.of_awp mixed Tryz.func18 rfl (by kernel_rfl) (by kernel_rfl) (by simp [Tryz.ntmps18]) Tryz.results18 ?_
 repeat' (first | refine xs ?_ ?_ <;> intros | (refine wn ?_; intro bx hbx; try simp only [fb] at hbx) | refine wp h1 ?_ | refine wp h2 ?_ | refine wp h3 ?_ | refine wj ?_ | simp -dsimp only [↓bp, bq, br, seval, tbTermKit, *] | refine wz ?_ | fail)
 all_goals (first | (simp only [same_eq, *, Bool.and_true, Bool.true_and, Bool.and_false, Bool.false_and, Bool.or_true, Bool.true_or, Bool.or_false, Bool.false_or, Bool.not_true, Bool.not_false, if_true, if_false, Bool.and_self, Bool.or_self]; done) | (simp [same_eq, *]; done) | (simp_all [same_eq]; done))
end
set_option maxRecDepth 20000
section
def tbGreat2 := And.intro (And.intro (And.intro (And.intro @tf3 @tf4) (And.intro @tf5 (And.intro @tf47 @tf9))) (And.intro (And.intro @tf23 (And.intro @tf22 @tf24)) (And.intro @tf26 (And.intro @Term.flat_enc @Term.isv_enc)))) (And.intro (And.intro (And.intro @Term.fold_enc (And.intro @isv_encs @flat_encs)) (And.intro @len_encs (And.intro @ix_encs @ix_encs'))) (And.intro (And.intro @isv_lims (And.intro @flat_lims @len_lims)) (And.intro @ix_lims (And.intro @ix_lims' @flat_limA))))
mutual
def termsOf : Term -> Int -> Int
 | .mk _ _ l s _ ks ts, m => termsLoop ts (termsLoop ks (1 + l.length + (s.length / 8 : Nat)) m) m
def termsLoop : List Term -> Int -> Int -> Int
 | [], n, _ => n
 | k :: ks, n, m => if n <= m then termsLoop ks (n + termsOf k (m - n)) m else n
end
theorem termsOf_eq (t : Term) (m : Int) : termsOf t m = termsLoop t.tail (termsLoop t.items (1 + t.limbs.length + (t.text.length / 8 : Nat)) m) m := by cases t; rw [termsOf]; rfl
theorem termsLoop_le (l : List Term) (ih : ∀ k, k ∈ l -> ∀ m, 0 < termsOf k m /\ termsOf k m <= k.bulk) : ∀ n m, n <= termsLoop l n m /\ termsLoop l n m <= n + bulks l := by
 induction l with
 | nil => intro n m; simp [termsLoop, bulks]
 | cons x l ih2 =>
  intro n m
  have h1 := ih x (by simp) (m - n)
  have h2 := ih2 (fun k hk => ih k (by simp [hk])) (n + termsOf x (m - n)) m
  simp only [termsLoop, bulks]
  split <;> omega
theorem termsOf_le (t : Term) : ∀ m, 0 < termsOf t m /\ termsOf t m <= t.bulk := by
 refine Term.ind (P := fun t => ∀ m, 0 < termsOf t m /\ termsOf t m <= t.bulk) (fun t ih1 ih2 m => ?_) t
 have h1 := termsLoop_le t.items ih1 (1 + t.limbs.length + (t.text.length / 8 : Nat)) m
 have h2 := termsLoop_le t.tail ih2 (termsLoop t.items (1 + t.limbs.length + (t.text.length / 8 : Nat)) m) m
 rw [termsOf_eq, Term.bulk_eq]
 omega
theorem bulks_take (l : List Term) (i : Nat) : bulks (l.take i) <= bulks l := by
 have := bulks_append (l.take i) (l.drop i)
 rw [List.take_append_drop] at this
 omega
variable (G : Nat -> AV)
theorem termsOf_pure (t : Term) : ∀ m : Int, 0 <= m -> m <= 1000000 -> t.bulk <= 1000000000 -> Pure Tryz.prog G 34 [t.enc, .int .i64 m] (.int .i64 (termsOf t m)) := by
 refine Term.ind (P := fun t => ∀ m : Int, 0 <= m -> m <= 1000000 -> t.bulk <= 1000000000 -> Pure Tryz.prog G 34 [t.enc, .int .i64 m] (.int .i64 (termsOf t m))) (fun t ih1 ih2 m hm0 hm1 hbulk => ?_) t
 intro σ
 have hbe := t.bulk_eq
 have hl1 := len_le_bulks t.items
 have hl2 := len_le_bulks t.tail
 have hde := termsOf_eq t m
 obtain ⟨n0, hn0⟩ : ∃ n0 : Int, n0 = 1 + t.limbs.length + (t.text.length / 8 : Nat) := ⟨_, rfl⟩
 rw [<- hn0] at hde
 have hq : IntKind.i64.wrap (IntKind.i64.wrap (1 + (t.limbs.length : Int)) + IntKind.i64.wrap ((t.text.length : Int).tdiv 8)) = n0 := by
  have : ((t.text.length : Int).tdiv 8) = ((t.text.length / 8 : Nat) : Int) := by
   rw [Int.tdiv_eq_ediv_of_nonneg (by omega)]; omega
  have hi : IntKind.i64.wrap ((t.text.length / 8 : Nat) : Int) = (t.text.length / 8 : Nat) := wrap_nat (by omega) (by omega)
  rw [this, hi, wrap_nat (x := 1 + (t.limbs.length : Int)) (by omega) (by omega), wrap_nat (by omega) (by omega), hn0]
 have hn1 : n0 <= 1 + t.limbs.length + t.text.length := by omega
 have hn2 : 0 < n0 := by omega
 clear hn0
 have e1 := termsLoop_le t.items (fun k _ => termsOf_le k) n0 m
 refine Tri.of_awp mixed Tryz.func34 rfl (by kernel_rfl) (by kernel_rfl) (by simp [Tryz.ntmps34]) Tryz.results34 ?_
 simp -dsimp only [↓bp, bq, br, seval, tbGreat2]
 intro b hb
 simp -dsimp only [↓bp, bq, br, seval, tbGreat2, hq]
 refine loop_intro (fun n e σ' => ∃ (i : Nat) (z : Int), i <= t.items.length /\ n = t.items.length - i /\ e 6 = .int .i64 i /\ e 5 = .int .i64 z /\ 0 < z /\ z <= n0 + bulks (t.items.take i) /\ termsLoop (t.items.drop i) z m = termsLoop t.items n0 m /\
   σ' = σ.setBox b [.int .u8 t.knd, .bool t.neg, lims t.limbs, .str t.text, .int .i64 t.num, encs t.items, encs t.tail]) t.items.length
  ⟨0, n0, by omega, by omega, by simp -dsimp only [↓bp, bq, br, seval, tbGreat2]; try rfl, by simp -dsimp only [↓bp, bq, br, seval, tbGreat2, hq], by omega, by simp [bulks], by rw [List.drop_zero], rfl⟩ ?_
 rintro n v σ' ⟨i, z, hi, rfl, h6, h5, hz0, hz1, hz, rfl⟩
 have hbt := bulks_take t.items i
 simp -dsimp only [↓bp, bq, br, seval, tbGreat2] at h6 h5
 simp -dsimp only [↓bp, bq, br, seval, tbGreat2, h6, h5]
 refine gW_dec (fun hlt => ?_) (fun hge => ?_)
 ·obtain ⟨k, hk⟩ : ∃ k, t.items[i]? = some k := ⟨_, List.getElem?_eq_getElem (by omega)⟩
  have hkm : k ∈ t.items := List.mem_of_getElem? hk
  have hkb := bulk_mem hkm
  have hko := termsOf_le k (m - z)
  have hdr := drop_get _ _ _ hk
  simp -dsimp only [↓bp, bq, br, seval, tbGreat2, h6, h5, hk, hlt]
  refine condW_dec (fun hle => ?_) (fun hnle => ?_)
  ·have hw : IntKind.i64.wrap (m - z) = m - z := wrap_nat (by omega) (by omega)
   simp -dsimp only [↓bp, bq, br, seval, tbGreat2, h6, h5, hk, hlt, hle, hw]
   refine Pure.use (ih1 k hkm (m - z) (by omega) (by omega) (by omega)) ?_
   simp -dsimp only [↓bp, bq, br, seval, tbGreat2, h6, h5, hk, hlt, hle, hw]
   refine ⟨t.items.length - (i + 1), by omega, i + 1, z + termsOf k (m - z), by omega, rfl, ?_, ?_, by omega, ?_, ?_⟩
   ·rw [wrap_nat (by omega) (by omega)]; rfl
   ·rw [wrap_nat (by omega) (by omega)]
   ·rw [take_succ_get _ _ _ hk, bulks_append]
    simp only [bulks]
    omega
   ·rw [<- hz, hdr, termsLoop, if_pos hle]
  ·have hz' : termsLoop t.items n0 m = z := by rw [<- hz, hdr, termsLoop, if_neg hnle]
   simp -dsimp only [↓bp, bq, br, seval, tbGreat2, h6, h5, hk, hlt, hnle]
   have hz3 : z <= n0 + bulks t.items := by omega
   have hz4 := termsLoop_le t.tail (fun k _ => termsOf_le k) z m
   rw [hz'] at hde
   refine loop_intro (fun n e σ' => ∃ (i : Nat) (y : Int), i <= t.tail.length /\ n = t.tail.length - i /\ e 7 = .int .i64 i /\ e 5 = .int .i64 y /\ 0 < y /\ y <= z + bulks (t.tail.take i) /\ termsLoop (t.tail.drop i) y m = termsLoop t.tail z m /\
     σ' = σ.setBox b [.int .u8 t.knd, .bool t.neg, lims t.limbs, .str t.text, .int .i64 t.num, encs t.items, encs t.tail]) t.tail.length
    ⟨0, z, by omega, by omega, by simp -dsimp only [↓bp, bq, br, seval, tbGreat2]; try rfl, by simp -dsimp only [↓bp, bq, br, seval, tbGreat2, h5], by omega, by simp [bulks], by rw [List.drop_zero], rfl⟩ ?_
   rintro n2 v2 σ' ⟨j, y, hj, rfl, h7, h5', hy0, hy1, hy, rfl⟩
   have hbt2 := bulks_take t.tail j
   simp -dsimp only [↓bp, bq, br, seval, tbGreat2] at h7 h5'
   simp -dsimp only [↓bp, bq, br, seval, tbGreat2, h7, h5']
   refine gW_dec (fun hlt2 => ?_) (fun hge2 => ?_)
   ·obtain ⟨k, hk⟩ : ∃ k, t.tail[j]? = some k := ⟨_, List.getElem?_eq_getElem (by omega)⟩
    have hkm : k ∈ t.tail := List.mem_of_getElem? hk
    have hkb := bulk_mem hkm
    have hko := termsOf_le k (m - y)
    have hdr := drop_get _ _ _ hk
    simp -dsimp only [↓bp, bq, br, seval, tbGreat2, h7, h5', hk, hlt2]
    refine condW_dec (fun hle => ?_) (fun hnle => ?_)
    ·have hw : IntKind.i64.wrap (m - y) = m - y := wrap_nat (by omega) (by omega)
     simp -dsimp only [↓bp, bq, br, seval, tbGreat2, h7, h5', hk, hlt2, hle, hw]
     refine Pure.use (ih2 k hkm (m - y) (by omega) (by omega) (by omega)) ?_
     simp -dsimp only [↓bp, bq, br, seval, tbGreat2, h7, h5', hk, hlt2, hle, hw]
     refine ⟨t.tail.length - (j + 1), by omega, j + 1, y + termsOf k (m - y), by omega, rfl, ?_, ?_, by omega, ?_, ?_⟩
     ·rw [wrap_nat (by omega) (by omega)]; rfl
     ·rw [wrap_nat (by omega) (by omega)]
     ·rw [take_succ_get _ _ _ hk, bulks_append]
      simp only [bulks]
      omega
     ·rw [<- hy, hdr, termsLoop, if_pos hle]
    ·simp -dsimp only [↓bp, bq, br, seval, tbGreat2, h7, h5', hk, hlt2, hnle]
     refine finish_pure ?_ (le_set hb (AS.le.refl σ))
     rw [hde, <- hy, hdr, termsLoop, if_neg hnle]
   ·have : j = t.tail.length := by omega
    subst this
    simp -dsimp only [↓bp, bq, br, seval, tbGreat2, h7, h5', hge2]
    refine finish_pure ?_ (le_set hb (AS.le.refl σ))
    rw [hde, <- hy, List.drop_length, termsLoop]
 ·have : i = t.items.length := by omega
  subst this
  have hz' : termsLoop t.items n0 m = z := by rw [<- hz, List.drop_length, termsLoop]
  simp -dsimp only [↓bp, bq, br, seval, tbGreat2, h6, h5, hge]
  have hz3 : z <= n0 + bulks t.items := by omega
  have hz4 := termsLoop_le t.tail (fun k _ => termsOf_le k) z m
  rw [hz'] at hde
  refine loop_intro (fun n e σ' => ∃ (i : Nat) (y : Int), i <= t.tail.length /\ n = t.tail.length - i /\ e 7 = .int .i64 i /\ e 5 = .int .i64 y /\ 0 < y /\ y <= z + bulks (t.tail.take i) /\ termsLoop (t.tail.drop i) y m = termsLoop t.tail z m /\
    σ' = σ.setBox b [.int .u8 t.knd, .bool t.neg, lims t.limbs, .str t.text, .int .i64 t.num, encs t.items, encs t.tail]) t.tail.length
   ⟨0, z, by omega, by omega, by simp -dsimp only [↓bp, bq, br, seval, tbGreat2]; try rfl, by simp -dsimp only [↓bp, bq, br, seval, tbGreat2, h5], by omega, by simp [bulks], by rw [List.drop_zero], rfl⟩ ?_
  rintro n2 v2 σ' ⟨j, y, hj, rfl, h7, h5', hy0, hy1, hy, rfl⟩
  have hbt2 := bulks_take t.tail j
  simp -dsimp only [↓bp, bq, br, seval, tbGreat2] at h7 h5'
  simp -dsimp only [↓bp, bq, br, seval, tbGreat2, h7, h5']
  refine gW_dec (fun hlt2 => ?_) (fun hge2 => ?_)
  ·obtain ⟨k, hk⟩ : ∃ k, t.tail[j]? = some k := ⟨_, List.getElem?_eq_getElem (by omega)⟩
   have hkm : k ∈ t.tail := List.mem_of_getElem? hk
   have hkb := bulk_mem hkm
   have hko := termsOf_le k (m - y)
   have hdr := drop_get _ _ _ hk
   simp -dsimp only [↓bp, bq, br, seval, tbGreat2, h7, h5', hk, hlt2]
   refine condW_dec (fun hle => ?_) (fun hnle => ?_)
   ·have hw : IntKind.i64.wrap (m - y) = m - y := wrap_nat (by omega) (by omega)
    simp -dsimp only [↓bp, bq, br, seval, tbGreat2, h7, h5', hk, hlt2, hle, hw]
    refine Pure.use (ih2 k hkm (m - y) (by omega) (by omega) (by omega)) ?_
    simp -dsimp only [↓bp, bq, br, seval, tbGreat2, h7, h5', hk, hlt2, hle, hw]
    refine ⟨t.tail.length - (j + 1), by omega, j + 1, y + termsOf k (m - y), by omega, rfl, ?_, ?_, by omega, ?_, ?_⟩
    ·rw [wrap_nat (by omega) (by omega)]; rfl
    ·rw [wrap_nat (by omega) (by omega)]
    ·rw [take_succ_get _ _ _ hk, bulks_append]
     simp only [bulks]
     omega
    ·rw [<- hy, hdr, termsLoop, if_pos hle]
   ·simp -dsimp only [↓bp, bq, br, seval, tbGreat2, h7, h5', hk, hlt2, hnle]
    refine finish_pure ?_ (le_set hb (AS.le.refl σ))
    rw [hde, <- hy, hdr, termsLoop, if_neg hnle]
  ·have : j = t.tail.length := by omega
   subst this
   simp -dsimp only [↓bp, bq, br, seval, tbGreat2, h7, h5', hge2]
   refine finish_pure ?_ (le_set hb (AS.le.refl σ))
   rw [hde, <- hy, List.drop_length, termsLoop]
def greats : List Term -> Int -> Int
 | [], n => n
 | t :: l, n => if n <= 6000 then greats l (n + termsOf t 6000) else n
theorem greats_le (l : List Term) : ∀ n, n <= greats l n /\ greats l n <= n + bulks l := by
 induction l with
 | nil => intro n; simp [greats, bulks]
 | cons x l ih =>
  intro n
  have h1 := termsOf_le x 6000
  have h2 := ih (n + termsOf x 6000)
  simp only [greats, bulks]
  split <;> omega
def great (l : List Term) : Bool := decide (6000 < greats l 0)
theorem great_pure (l : List Term) (hb : bulks l <= 1000000000) : Pure Tryz.prog G 6 [encs l] (.bool (great l)) := by
 intro σ
 have hll := len_le_bulks l
 refine Tri.of_awp mixed Tryz.func6 rfl (by kernel_rfl) (by kernel_rfl) (by simp [Tryz.ntmps6]) Tryz.results6 ?_
 simp -dsimp only [↓bp, bq, br, seval, tbGreat2]
 refine loop_keep mixed (fun n e => ∃ (i : Nat) (z : Int), i <= l.length /\ n = l.length - i /\ e 4 = .int .i64 i /\ e 3 = .int .i64 z /\ 0 <= z /\ z <= bulks (l.take i) /\ greats (l.drop i) z = greats l 0) l.length
  ⟨0, 0, by omega, by omega, by simp -dsimp only [↓bp, bq, br, seval, tbGreat2]; try rfl, by simp -dsimp only [↓bp, bq, br, seval, tbGreat2], by omega, by simp [bulks], by rw [List.drop_zero]⟩ ?_
 rintro n v ⟨i, z, hi, rfl, h4, h3, hz0, hz1, hz⟩
 have hbt := bulks_take l i
 simp -dsimp only [↓bp, bq, br, seval, tbGreat2] at h4 h3
 simp -dsimp only [↓bp, bq, br, seval, tbGreat2, h4, h3]
 refine gW_dec (fun hlt => ?_) (fun hge => ?_)
 ·obtain ⟨k, hk⟩ : ∃ k, l[i]? = some k := ⟨_, List.getElem?_eq_getElem (by omega)⟩
  have hkm : k ∈ l := List.mem_of_getElem? hk
  have hkb := bulk_mem hkm
  have hko := termsOf_le k 6000
  have hdr := drop_get _ _ _ hk
  have hpk := termsOf_pure G k 6000 (by omega) (by omega) (by omega)
  simp -dsimp only [↓bp, bq, br, seval, tbGreat2, h4, h3, hk, hlt]
  refine condW_dec (fun hle => ?_) (fun hnle => ?_)
  ·simp -dsimp only [↓bp, bq, br, seval, tbGreat2, h4, h3, hk, hlt, hle]
   refine Pure.use hpk ?_
   simp -dsimp only [↓bp, bq, br, seval, tbGreat2, h4, h3, hk, hlt, hle]
   refine ⟨l.length - (i + 1), by omega, i + 1, z + termsOf k 6000, by omega, rfl, ?_, ?_, by omega, ?_, ?_⟩
   ·rw [wrap_nat (by omega) (by omega)]; rfl
   ·rw [wrap_nat (by omega) (by omega)]
   ·rw [take_succ_get _ _ _ hk, bulks_append]
    simp only [bulks]
    omega
   ·rw [<- hz, hdr, greats, if_pos hle]
  ·have hz' : greats l 0 = z := by rw [<- hz, hdr, greats, if_neg hnle]
   simp -dsimp only [↓bp, bq, br, seval, tbGreat2, h4, h3, hk, hlt, hnle]
   refine finish_pure ?_ (AS.le.refl σ)
   rw [great, hz']
 ·have : i = l.length := by omega
  subst this
  have hz' : greats l 0 = z := by rw [<- hz, List.drop_length, greats]
  simp -dsimp only [↓bp, bq, br, seval, tbGreat2, h4, h3, hge]
  refine finish_pure ?_ (AS.le.refl σ)
  rw [great, hz']
end
set_option maxRecDepth 20000
section
def tbSize := And.intro (And.intro (And.intro (And.intro @tf3 @tf4) (And.intro @tf5 (And.intro @tf47 @tf9))) (And.intro (And.intro @tf23 (And.intro @tf22 @tf24)) (And.intro @tf26 (And.intro @Term.flat_enc @Term.isv_enc)))) (And.intro (And.intro (And.intro @Term.fold_enc (And.intro @isv_encs @flat_encs)) (And.intro @len_encs (And.intro @ix_encs @ix_encs'))) (And.intro (And.intro @isv_lims (And.intro @flat_lims @len_lims)) (And.intro @ix_lims (And.intro @ix_lims' @flat_limA))))
variable (G : Nat -> AV)
def lastOk (l : List UInt32) : Bool := match l[l.length - 1]? with | some x => decide ((x.toNat : Int) ≠ 0) | none => false
def wr (t : Term) : Bool :=
 decide (t.knd = 1) && decide (t.text = []) && decide (t.num = 0) && decide ((t.items.length : Int) + t.tail.length = 0) && decide ((t.limbs.length : Int) <= 32) && (decide ((t.limbs.length : Int) = 0) && !t.neg || decide (0 < (t.limbs.length : Int)) && lastOk t.limbs)
set_option maxHeartbeats 2000000 in
theorem wr_pure (t : Term) (hb : t.bulk <= 1000000000) : Pure Tryz.prog G 72 [t.enc] (.bool (wr t)) := by
 have h1 := len_limbs t
 have h2 := len_items t
 have h3 := len_tail t
 have hw1 : IntKind.i64.wrap ((t.items.length : Int) + t.tail.length) = t.items.length + t.tail.length := wrap_nat (by omega) (by omega)
 intro σ
 by_cases hl : 0 < (t.limbs.length : Int)
 ·have hw2 : IntKind.i64.wrap ((t.limbs.length : Int) - 1) = ((t.limbs.length - 1 : Nat) : Int) := by rw [wrap_nat (by omega) (by omega)]; omega
  obtain ⟨x, hx⟩ : ∃ x, t.limbs[t.limbs.length - 1]? = some x := ⟨_, List.getElem?_eq_getElem (by omega)⟩
  have hlo : lastOk t.limbs = decide ((x.toNat : Int) ≠ 0) := by simp [lastOk, hx]
  have hl0 : ¬ (t.limbs.length : Int) = 0 := by omega
  clear h1 h2 h3 hb
  refine Tri.of_awp mixed Tryz.func72 rfl (by kernel_rfl) (by kernel_rfl) (by simp [Tryz.ntmps72]) Tryz.results72 ?_
  repeat' (first | refine xs ?_ ?_ <;> intros | (refine wn ?_; intro bx hbx; try simp only [fb] at hbx) | refine wj ?_ | simp -dsimp only [↓bp, bq, br, seval, tbSize, limA, *] | refine wz ?_ | fail)
  all_goals (first | (simp only [wr, *, Bool.and_true, Bool.true_and, Bool.and_false, Bool.false_and, Bool.or_true, Bool.true_or, Bool.or_false, Bool.false_or, Bool.not_true, Bool.not_false, if_true, if_false, Bool.and_self, Bool.or_self]; done) | (simp [wr, *]; done) | (simp_all [wr]; done))
 ·have hl0 : (t.limbs.length : Int) = 0 := by omega
  clear h1 h2 h3 hb
  refine Tri.of_awp mixed Tryz.func72 rfl (by kernel_rfl) (by kernel_rfl) (by simp [Tryz.ntmps72]) Tryz.results72 ?_
  repeat' (first | refine xs ?_ ?_ <;> intros | (refine wn ?_; intro bx hbx; try simp only [fb] at hbx) | refine wj ?_ | simp -dsimp only [↓bp, bq, br, seval, tbSize, limA, *] | refine wz ?_ | fail)
  all_goals (first | (simp only [wr, *, Bool.and_true, Bool.true_and, Bool.and_false, Bool.false_and, Bool.or_true, Bool.true_or, Bool.or_false, Bool.false_or, Bool.not_true, Bool.not_false, if_true, if_false, Bool.and_self, Bool.or_self]; done) | (simp [wr, *]; done) | (simp_all [wr]; done))
def bare (t : Term) (text num items tail : Bool) : Bool :=
 !t.neg && decide ((t.limbs.length : Int) = 0) && (text || decide (t.text = [])) && (num || decide (t.num = 0)) && (items || decide ((t.items.length : Int) = 0)) && (tail || decide ((t.tail.length : Int) = 0))
set_option maxHeartbeats 2000000 in
theorem bare_pure0 (t : Term) : Pure Tryz.prog G 73 [t.enc, .bool true, .bool false, .bool false, .bool false] (.bool (bare t true false false false)) := by
 intro σ
 refine Tri.of_awp mixed Tryz.func73 rfl (by kernel_rfl) (by kernel_rfl) (by simp [Tryz.ntmps73]) Tryz.results73 ?_
 repeat' (first | refine xs ?_ ?_ <;> intros | (refine wn ?_; intro bx hbx; try simp only [fb] at hbx) | refine wj ?_ | simp -dsimp only [↓bp, bq, br, seval, tbSize, *] | refine wz ?_ | fail)
 all_goals (first | (simp only [bare, *, Bool.and_true, Bool.true_and, Bool.and_false, Bool.false_and, Bool.or_true, Bool.true_or, Bool.or_false, Bool.false_or, Bool.not_true, Bool.not_false, if_true, if_false, Bool.and_self, Bool.or_self]; done) | (simp [bare, *]; done) | (simp_all [bare]; done))
set_option maxHeartbeats 2000000 in
theorem bare_pure1 (t : Term) : Pure Tryz.prog G 73 [t.enc, .bool false, .bool true, .bool false, .bool false] (.bool (bare t false true false false)) := by
 intro σ
 refine Tri.of_awp mixed Tryz.func73 rfl (by kernel_rfl) (by kernel_rfl) (by simp [Tryz.ntmps73]) Tryz.results73 ?_
 repeat' (first | refine xs ?_ ?_ <;> intros | (refine wn ?_; intro bx hbx; try simp only [fb] at hbx) | refine wj ?_ | simp -dsimp only [↓bp, bq, br, seval, tbSize, *] | refine wz ?_ | fail)
 all_goals (first | (simp only [bare, *, Bool.and_true, Bool.true_and, Bool.and_false, Bool.false_and, Bool.or_true, Bool.true_or, Bool.or_false, Bool.false_or, Bool.not_true, Bool.not_false, if_true, if_false, Bool.and_self, Bool.or_self]; done) | (simp [bare, *]; done) | (simp_all [bare]; done))
set_option maxHeartbeats 2000000 in
theorem bare_pure2 (t : Term) : Pure Tryz.prog G 73 [t.enc, .bool false, .bool true, .bool true, .bool false] (.bool (bare t false true true false)) := by
 intro σ
 refine Tri.of_awp mixed Tryz.func73 rfl (by kernel_rfl) (by kernel_rfl) (by simp [Tryz.ntmps73]) Tryz.results73 ?_
 repeat' (first | refine xs ?_ ?_ <;> intros | (refine wn ?_; intro bx hbx; try simp only [fb] at hbx) | refine wj ?_ | simp -dsimp only [↓bp, bq, br, seval, tbSize, *] | refine wz ?_ | fail)
 all_goals (first | (simp only [bare, *, Bool.and_true, Bool.true_and, Bool.and_false, Bool.false_and, Bool.or_true, Bool.true_or, Bool.or_false, Bool.false_or, Bool.not_true, Bool.not_false, if_true, if_false, Bool.and_self, Bool.or_self]; done) | (simp [bare, *]; done) | (simp_all [bare]; done))
set_option maxHeartbeats 2000000 in
theorem bare_pure3 (t : Term) : Pure Tryz.prog G 73 [t.enc, .bool false, .bool false, .bool true, .bool false] (.bool (bare t false false true false)) := by
 intro σ
 refine Tri.of_awp mixed Tryz.func73 rfl (by kernel_rfl) (by kernel_rfl) (by simp [Tryz.ntmps73]) Tryz.results73 ?_
 repeat' (first | refine xs ?_ ?_ <;> intros | (refine wn ?_; intro bx hbx; try simp only [fb] at hbx) | refine wj ?_ | simp -dsimp only [↓bp, bq, br, seval, tbSize, *] | refine wz ?_ | fail)
 all_goals (first | (simp only [bare, *, Bool.and_true, Bool.true_and, Bool.and_false, Bool.false_and, Bool.or_true, Bool.true_or, Bool.or_false, Bool.false_or, Bool.not_true, Bool.not_false, if_true, if_false, Bool.and_self, Bool.or_self]; done) | (simp [bare, *]; done) | (simp_all [bare]; done))
set_option maxHeartbeats 2000000 in
theorem bare_pure4 (t : Term) : Pure Tryz.prog G 73 [t.enc, .bool false, .bool false, .bool true, .bool true] (.bool (bare t false false true true)) := by
 intro σ
 refine Tri.of_awp mixed Tryz.func73 rfl (by kernel_rfl) (by kernel_rfl) (by simp [Tryz.ntmps73]) Tryz.results73 ?_
 repeat' (first | refine xs ?_ ?_ <;> intros | (refine wn ?_; intro bx hbx; try simp only [fb] at hbx) | refine wj ?_ | simp -dsimp only [↓bp, bq, br, seval, tbSize, *] | refine wz ?_ | fail)
 all_goals (first | (simp only [bare, *, Bool.and_true, Bool.true_and, Bool.and_false, Bool.false_and, Bool.or_true, Bool.true_or, Bool.or_false, Bool.false_or, Bool.not_true, Bool.not_false, if_true, if_false, Bool.and_self, Bool.or_self]; done) | (simp [bare, *]; done) | (simp_all [bare]; done))
end
set_option maxRecDepth 20000
section
def tbSize2 := And.intro (And.intro (And.intro (And.intro @tf3 @tf4) (And.intro @tf5 (And.intro @tf47 @tf9))) (And.intro (And.intro @tf23 (And.intro @tf22 @tf24)) (And.intro @tf26 (And.intro @Term.flat_enc @Term.isv_enc)))) (And.intro (And.intro (And.intro @Term.fold_enc (And.intro @isv_encs @flat_encs)) (And.intro @len_encs (And.intro @ix_encs @ix_encs'))) (And.intro (And.intro @isv_lims (And.intro @flat_lims @len_lims)) (And.intro @ix_lims (And.intro @ix_lims' @flat_limA))))
variable (G : Nat -> AV)
def head (t : Term) : Int × Int × Bool :=
 if t.knd = 2 then (1, 0, bare t true false false false && decide ((t.text.length : Int) <= 40))
 else if t.knd = 3 \/ t.knd = 5 then (1, 0, bare t false true false false && decide (0 <= t.num) && decide (t.num <= 1099511627776))
 else if t.knd = 4 then (2, 0, bare t false true true false && decide (0 <= t.num) && decide (t.num <= 16384))
 else if t.knd = 6 then (1, 0, bare t false false true false)
 else if t.knd = 7 then (1, 1, bare t false false true true && decide ((t.tail.length : Int) <= if (t.items.length : Int) < 1 then (t.items.length : Int) else 1) && t.tail.all fun x => decide (x.knd ≠ 7))
 else (1, 0, false)
mutual
def size : Term -> Int
 | .mk k g l s n ks ts =>
  if (k.toNat : Int) = 1 then (if wr (.mk k g l s n ks ts) = true then 1 + l.length else 0) else
   let h := head (.mk k g l s n ks ts)
   let a := adds ks h.2.1 (h.1, h.2.2)
   let b := adds ts 0 a
   if b.2 = true then b.1 else 0
def adds : List Term -> Int -> Int × Bool -> Int × Bool
 | [], _, a => a
 | k :: ks, each, a => if a.2 = true then adds ks each (a.1 + size k + each, decide (0 < size k) && decide (a.1 + size k + each <= 4096)) else a
end
theorem size_eq (t : Term) : size t = if t.knd = 1 then (if wr t = true then (1 + t.limbs.length : Int) else 0) else
  if (adds t.tail 0 (adds t.items (head t).2.1 ((head t).1, (head t).2.2))).2 = true then (adds t.tail 0 (adds t.items (head t).2.1 ((head t).1, (head t).2.2))).1 else 0 := by
 cases t; rw [size]; rfl
theorem adds_le (l : List Term) (h : ∀ x, x ∈ l -> 0 <= size x /\ size x <= 4096) (each : Int) (he0 : 0 <= each) (he1 : each <= 1) : ∀ a : Int × Bool, 0 < a.1 -> (a.2 = true -> a.1 <= 4096) -> a.1 <= 10000 ->
  0 < (adds l each a).1 /\ ((adds l each a).2 = true -> (adds l each a).1 <= 4096) /\ (adds l each a).1 <= 10000 := by
 induction l with
 | nil => intro a h1 h2 h3; exact ⟨h1, h2, h3⟩
 | cons x l ih =>
  intro a h1 h2 h3
  have hx := h x (by simp)
  simp only [adds]
  split
  ·rename_i hf
   have := h2 hf
   refine ih (fun y hy => h y (by simp [hy])) _ (by simp only; omega) (fun hh => ?_) (by simp only; omega)
   simp only [Bool.and_eq_true, decide_eq_true_eq] at hh
   exact hh.2
  ·exact ⟨h1, h2, h3⟩
theorem head_le (t : Term) : 0 < (head t).1 /\ (head t).1 <= 2 /\ 0 <= (head t).2.1 /\ (head t).2.1 <= 1 := by
 unfold head; split <;> (try split) <;> (try split) <;> (try split) <;> (try split) <;> simp
theorem size_le (t : Term) : 0 <= size t /\ size t <= 4096 := by
 refine Term.ind (P := fun t => 0 <= size t /\ size t <= 4096) (fun t ih1 ih2 => ?_) t
 obtain ⟨h1, h2, h3, h4⟩ := head_le t
 have a := adds_le t.items ih1 _ h3 h4 ((head t).1, (head t).2.2) h1 (fun _ => by simp only; omega) (by simp only; omega)
 have b := adds_le t.tail ih2 0 (by omega) (by omega) _ a.1 a.2.1 a.2.2
 rw [size_eq]
 split
 ·split
  ·rename_i hw
   simp only [wr, Bool.and_eq_true, decide_eq_true_eq] at hw
   omega
  ·omega
 ·split
  ·rename_i hf
   have := b.2.1 hf
   omega
  ·omega
theorem adds_false (l : List Term) (each n : Int) : adds l each (n, false) = (n, false) := by cases l <;> simp [adds]
theorem adds_tri (l : List Term) (each : Int) (he0 : 0 <= each) (he1 : each <= 1) (hl : l.length <= 1000000000) (hf : ∀ x, x ∈ l -> Pure Tryz.prog G 39 [x.enc] (.int .i64 (size x))) (σ : AS) (bf bn : Nat) (hne : bf ≠ bn) (n : Int) (f : Bool)
  (hbf : σ.box bf = some [.bool f]) (hbn : σ.box bn = some [.int .i64 n]) (hn0 : 0 < n) (hn1 : f = true -> n <= 4096) (hn2 : n <= 10000) :
  Tri Tryz.prog G 74 [encs l, .int .i64 each, .ptr bf 0, .ptr bn 0] σ fun r σ' => σ' = (σ.setBox bn [.int .i64 (adds l each (n, f)).1]).setBox bf [.bool (adds l each (n, f)).2] := by
 have hnb : bn ≠ bf := Ne.symm hne
 have hid : σ = (σ.setBox bn [.int .i64 n]).setBox bf [.bool f] := by
  unfold AS.setBox; cases σ with
  | mk box tip ty =>
   simp only [AS.mk.injEq, and_true]
   funext i
   split
   ·rename_i h; subst h; exact hbf
   ·split
    ·rename_i h; subst h; exact hbn
    ·rfl
 have sw : ∀ (m m' : Int) (g g' : Bool), (((σ.setBox bn [.int .i64 m]).setBox bf [.bool g]).setBox bn [.int .i64 m']).setBox bf [.bool g'] = (σ.setBox bn [.int .i64 m']).setBox bf [.bool g'] := fun m m' g g' => by
  unfold AS.setBox
  congr 1
  funext i
  simp only
  by_cases h1 : i = bf
  ·simp [h1]
  ·by_cases h2 : i = bn
   ·simp [h1, h2]
   ·simp [h1, h2]
 refine Tri.of_awp mixed Tryz.func74 rfl (by kernel_rfl) (by kernel_rfl) (by simp [Tryz.ntmps74]) Tryz.results74 ?_
 simp -dsimp only [↓bp, bq, br, seval, tbSize2]
 refine loop_intro (fun k e σ' => ∃ (i : Nat) (a : Int × Bool), i <= l.length /\ k = l.length - i /\ e 6 = .int .i64 i /\ 0 < a.1 /\ (a.2 = true -> a.1 <= 4096) /\ a.1 <= 10000 /\ adds (l.drop i) each a = adds l each (n, f) /\ σ' = (σ.setBox bn [.int .i64 a.1]).setBox bf [.bool a.2]) l.length
  ⟨0, (n, f), by omega, by omega, by simp -dsimp only [↓bp, bq, br, seval, tbSize2]; try rfl, hn0, hn1, hn2, by rw [List.drop_zero], hid⟩ ?_
 rintro k v σ' ⟨i, ⟨m, g⟩, hi, rfl, h6, hm0, hm1, hm2, ha, rfl⟩
 simp only at hm0 hm1 hm2 ⊢
 simp -dsimp only [↓bp, bq, br, seval, tbSize2] at h6
 simp -dsimp only [↓bp, bq, br, seval, tbSize2, h6]
 refine gW_dec (fun hlt => ?_) (fun hge => ?_)
 ·obtain ⟨x, hx⟩ : ∃ x, l[i]? = some x := ⟨_, List.getElem?_eq_getElem (by omega)⟩
  have hxm : x ∈ l := List.mem_of_getElem? hx
  have hs := size_le x
  have hdr := drop_get _ _ _ hx
  have hp := hf x hxm
  cases g with
  | false =>
   simp -dsimp only [↓bp, bq, br, seval, tbSize2, h6, hx, hlt, hne, hnb]
   refine ⟨_, _, rfl, AS.le.refl _, ?_⟩
   rw [<- ha, adds_false]
  | true =>
   have hm1 := hm1 rfl
   have hw1 : IntKind.i64.wrap (size x + each) = size x + each := wrap_nat (by omega) (by omega)
   have hw2 : IntKind.i64.wrap (m + (size x + each)) = m + size x + each := by rw [wrap_nat (by omega) (by omega)]; omega
   simp -dsimp only [↓bp, bq, br, seval, tbSize2, h6, hx, hlt, hne, hnb]
   refine Pure.use hp ?_
   simp -dsimp only [↓bp, bq, br, seval, tbSize2, h6, hx, hlt, hne, hnb, hw1, hw2]
   have hnx : adds (l.drop (i + 1)) each (m + size x + each, decide (0 < size x) && decide (m + size x + each <= 4096)) = adds l each (n, f) := by rw [<- ha, hdr]; simp [adds]
   refine gW_dec (fun h0 => ?_) (fun h0 => ?_)
   ·simp -dsimp only [↓bp, bq, br, seval, tbSize2, h6, hx, hlt, hne, hnb, hw1, hw2, h0]
    refine ⟨l.length - (i + 1), by omega, i + 1, (m + size x + each, decide (0 < size x) && decide (m + size x + each <= 4096)), by omega, rfl, by rw [wrap_nat (by omega) (by omega)]; rfl, by simp only; omega, ?_, by simp only; omega, hnx, ?_⟩
    ·intro hh
     simp only [Bool.and_eq_true, decide_eq_true_eq] at hh
     exact hh.2
    ·simp only [h0, decide_true, Bool.true_and]
     exact sw _ _ _ _
   ·simp -dsimp only [↓bp, bq, br, seval, tbSize2, h6, hx, hlt, hne, hnb, hw1, hw2, h0]
    refine ⟨l.length - (i + 1), by omega, i + 1, (m + size x + each, decide (0 < size x) && decide (m + size x + each <= 4096)), by omega, rfl, by rw [wrap_nat (by omega) (by omega)]; rfl, by simp only; omega, ?_, by simp only; omega, hnx, ?_⟩
    ·intro hh
     simp only [Bool.and_eq_true, decide_eq_true_eq] at hh
     exact hh.2
    ·simp only [h0, decide_false, Bool.false_and]
     exact sw _ _ _ _
 ·have : i = l.length := by omega
  subst this
  rw [List.drop_length] at ha
  simp -dsimp only [↓bp, bq, br, seval, tbSize2, h6, hge]
  refine ⟨_, _, rfl, AS.le.refl _, ?_⟩
  rw [<- ha]; rfl
end
section
def cmpI (a b : Int) : Int := if a < b then -1 else if b < a then 1 else 0
def lex (a b : Int) : Int := if a = 0 then b else a
def cmpS : List UInt8 -> List UInt8 -> Int
 | [], [] => 0
 | [], _ :: _ => -1
 | _ :: _, [] => 1
 | a :: l, b :: r => lex (cmpI a.toNat b.toNat) (cmpS l r)
def cmpL : List UInt32 -> List UInt32 -> Int
 | [], [] => 0
 | [], _ :: _ => -1
 | _ :: _, [] => 1
 | a :: l, b :: r => lex (cmpI a.toNat b.toNat) (cmpL l r)
def cmpA (a b : List UInt32) : Int := lex (cmpI a.length b.length) (cmpL a.reverse b.reverse)
def sgn (t : Term) : Int := if t.neg = true then -1 else 1
def cmpW (a b : Term) : Int := if sgn a ≠ sgn b then sgn a else cmpA a.limbs b.limbs * sgn a
def G3 (x y z : Int) : Prop := (x = 0 -> z = y) /\ (y = 0 -> z = x) /\ (x = y -> z = x)
def R3 (x : Int) : Prop := x = -1 \/ x = 0 \/ x = 1
theorem G3.lex {x y z x' y' z' : Int} (h : G3 x y z) (h' : G3 x' y' z') (hx : R3 x) (hy : R3 y) (hz : R3 z) : G3 (Proofs.YtdhbdhopnpmboaaGreatDoor.lex x x') (Proofs.YtdhbdhopnpmboaaGreatDoor.lex y y') (Proofs.YtdhbdhopnpmboaaGreatDoor.lex z z') := by
 obtain ⟨a, b, c⟩ := h
 obtain ⟨a', b', c'⟩ := h'
 unfold Proofs.YtdhbdhopnpmboaaGreatDoor.lex G3
 unfold R3 at hx hy hz
 rcases hx with rfl | rfl | rfl <;> rcases hy with rfl | rfl | rfl <;> simp_all
theorem R3.lex {x x' : Int} (h : R3 x) (h' : R3 x') : R3 (Proofs.YtdhbdhopnpmboaaGreatDoor.lex x x') := by
 unfold Proofs.YtdhbdhopnpmboaaGreatDoor.lex; split <;> assumption
theorem lex_zero {x y : Int} : lex x y = 0 ↔ x = 0 /\ y = 0 := by
 unfold lex
 by_cases h : x = 0
 ·simp [h]
 ·simp [h]
theorem cmpI_R (a b : Int) : R3 (cmpI a b) := by unfold cmpI R3; split <;> (try split) <;> simp
theorem cmpI_zero (a b : Int) : cmpI a b = 0 ↔ a = b := by
 unfold cmpI
 by_cases h1 : a < b
 ·simp [h1]; omega
 ·by_cases h2 : b < a
  ·simp [h1, h2]; omega
  ·simp [h1, h2]; omega
theorem cmpL_R : ∀ a b, R3 (cmpL a b)
 | [], [] => .inr (.inl rfl)
 | [], _ :: _ => .inl rfl
 | _ :: _, [] => .inr (.inr rfl)
 | a :: l, b :: r => (cmpI_R _ _).lex (cmpL_R l r)
theorem cmpS_R : ∀ a b, R3 (cmpS a b)
 | [], [] => .inr (.inl rfl)
 | [], _ :: _ => .inl rfl
 | _ :: _, [] => .inr (.inr rfl)
 | a :: l, b :: r => (cmpI_R _ _).lex (cmpS_R l r)
theorem cmpS_zero : ∀ a b, cmpS a b = 0 ↔ a = b
 | [], [] => by simp [cmpS]
 | [], _ :: _ => by simp [cmpS]
 | _ :: _, [] => by simp [cmpS]
 | a :: l, b :: r => by
  simp only [cmpS]
  rw [lex_zero, cmpI_zero, cmpS_zero l r, List.cons.injEq]
  constructor
  ·rintro ⟨h, rfl⟩; exact ⟨UInt8.toNat_inj.1 (by omega), rfl⟩
  ·rintro ⟨rfl, rfl⟩; exact ⟨rfl, rfl⟩
theorem cmpA_R (a b : List UInt32) : R3 (cmpA a b) := (cmpI_R _ _).lex (cmpL_R _ _)
theorem sgn_or (a : Term) : sgn a = -1 \/ sgn a = 1 := by unfold sgn; cases a.neg <;> simp
mutual
def order : Term -> Term -> Int
 | .mk k g l s n ks ts, b =>
  if (k.toNat : Int) ≠ b.knd then cmpI k.toNat b.knd
  else if (k.toNat : Int) = 1 then cmpW (.mk k g l s n ks ts) b
  else if (k.toNat : Int) = 7 then lex (lex (rows ks b.items) (cmpI ks.length b.items.length)) (tl ts b.tail)
  else lex (lex (cmpS s b.text) (lex (cmpI n b.num) (cmpI ks.length b.items.length))) (rows ks b.items)
def tl : List Term -> List Term -> Int
 | [], [] => 0
 | [], b :: _ => cmpI 7 b.knd
 | a :: _, [] => cmpI a.knd 7
 | a :: _, b :: _ => order a b
def rows : List Term -> List Term -> Int
 | [], _ => 0
 | _, [] => 0
 | a :: l, b :: r => lex (order a b) (rows l r)
end
theorem order_eq (a b : Term) : order a b = if a.knd ≠ b.knd then cmpI a.knd b.knd
  else if a.knd = 1 then cmpW a b
  else if a.knd = 7 then lex (lex (rows a.items b.items) (cmpI a.items.length b.items.length)) (tl a.tail b.tail)
  else lex (lex (cmpS a.text b.text) (lex (cmpI a.num b.num) (cmpI a.items.length b.items.length))) (rows a.items b.items) := by
 cases a; rw [order]; rfl
theorem lex_assoc (a b c : Int) : lex (lex a b) c = lex a (lex b c) := by
 unfold lex; by_cases h : a = 0 <;> simp [h]
def rl : List Term -> List Term -> Int
 | [], [] => 0
 | [], _ :: _ => -1
 | _ :: _, [] => 1
 | a :: l, b :: r => lex (order a b) (rl l r)
theorem cmpI_succ (a b : Nat) : cmpI ((a + 1 : Nat) : Int) ((b + 1 : Nat) : Int) = cmpI a b := by
 unfold cmpI
 by_cases h1 : (a : Int) < b
 ·rw [if_pos h1, if_pos (by omega)]
 ·by_cases h2 : (b : Int) < a
  ·rw [if_neg h1, if_pos h2, if_neg (by omega), if_pos (by omega)]
  ·rw [if_neg h1, if_neg h2, if_neg (by omega), if_neg (by omega)]
theorem rl_eq : ∀ l r, lex (rows l r) (cmpI l.length r.length) = rl l r
 | [], [] => by simp [rows, rl, lex, cmpI]
 | [], _ :: _ => by
  simp only [rows, rl, lex, if_true, cmpI, List.length_cons, List.length_nil]
  rw [if_pos (by omega)]
 | _ :: _, [] => by
  simp only [rows, rl, lex, if_true, cmpI, List.length_cons, List.length_nil]
  rw [if_neg (by omega), if_pos (by omega)]
 | a :: l, b :: r => by
  simp only [rows, rl, List.length_cons]
  rw [lex_assoc, cmpI_succ, rl_eq l r]
theorem rows_eq (l r : List Term) : lex (cmpI l.length r.length) (rows l r) = lex (cmpI l.length r.length) (rl l r) := by
 by_cases h : cmpI l.length r.length = 0
 ·rw [<- rl_eq, h]
  unfold lex
  by_cases h2 : rows l r = 0 <;> simp [h2]
 ·unfold lex; rw [if_neg h, if_neg h]
theorem order_eq2 (a b : Term) : order a b = if a.knd ≠ b.knd then cmpI a.knd b.knd
  else if a.knd = 1 then cmpW a b
  else if a.knd = 7 then lex (rl a.items b.items) (tl a.tail b.tail)
  else lex (cmpS a.text b.text) (lex (cmpI a.num b.num) (lex (cmpI a.items.length b.items.length) (rl a.items b.items))) := by
 rw [order_eq, rl_eq, lex_assoc, lex_assoc, rows_eq]
def right (t : Term) : Bool := decide (0 < size t)
theorem adds_true {each : Int} : ∀ (l : List Term) (a : Int × Bool), (adds l each a).2 = true -> a.2 = true /\ ∀ x, x ∈ l -> 0 < size x
 | [], a, h => ⟨h, fun x hx => by cases hx⟩
 | k :: ks, a, h => by
  simp only [adds] at h
  split at h
  ·rename_i ha
   obtain ⟨h1, h2⟩ := adds_true ks _ h
   simp only [Bool.and_eq_true, decide_eq_true_eq] at h1
   refine ⟨ha, fun x hx => ?_⟩
   rcases List.mem_cons.1 hx with rfl | hx
   ·exact h1.1
   ·exact h2 x hx
  ·rename_i ha; exact absurd h ha
structure Rt (t : Term) : Prop where
 items : ∀ x, x ∈ t.items -> right x = true
 tail : ∀ x, x ∈ t.tail -> right x = true
 kind : 1 <= t.knd /\ t.knd <= 7
 int : t.knd = 1 -> wr t = true
 rest : t.knd ≠ 1 -> t.neg = false /\ t.limbs = [] /\ (t.knd ≠ 2 -> t.text = []) /\ (t.knd ≠ 7 -> t.tail = []) /\ (t.knd = 2 \/ t.knd = 6 \/ t.knd = 7 -> t.num = 0) /\ (t.knd = 2 \/ t.knd = 3 \/ t.knd = 5 -> t.items = [])
 list : t.knd = 7 -> t.tail.length <= 1 /\ t.tail.length <= t.items.length /\ ∀ x, x ∈ t.tail -> x.knd ≠ 7
theorem wr_spec {t : Term} (h : wr t = true) : t.knd = 1 /\ t.text = [] /\ t.num = 0 /\ t.items = [] /\ t.tail = [] /\ t.limbs.length <= 32 /\ (t.limbs = [] -> t.neg = false) /\ (t.limbs ≠ [] -> lastOk t.limbs = true) := by
 simp only [wr, Bool.and_eq_true, Bool.or_eq_true, decide_eq_true_eq, Bool.not_eq_true'] at h
 obtain ⟨⟨⟨⟨⟨h1, h2⟩, h3⟩, h4⟩, h5⟩, h6⟩ := h
 refine ⟨h1, h2, h3, List.eq_nil_of_length_eq_zero (by omega), List.eq_nil_of_length_eq_zero (by omega), by omega, fun hl => ?_, fun hl => ?_⟩
 ·rcases h6 with h6 | h6
  ·exact h6.2
  ·rw [hl] at h6; simp at h6
 ·rcases h6 with h6 | h6
  ·have : t.limbs.length = 0 := by have := h6.1; omega
   exact absurd (List.eq_nil_of_length_eq_zero this) hl
  ·exact h6.2
theorem bare_spec {t : Term} {a b c d : Bool} (h : bare t a b c d = true) : t.neg = false /\ t.limbs = [] /\ (a = false -> t.text = []) /\ (b = false -> t.num = 0) /\ (c = false -> t.items = []) /\ (d = false -> t.tail = []) := by
 simp only [bare, Bool.and_eq_true, Bool.or_eq_true, decide_eq_true_eq, Bool.not_eq_true'] at h
 obtain ⟨⟨⟨⟨⟨h1, h2⟩, h3⟩, h4⟩, h5⟩, h6⟩ := h
 refine ⟨h1, List.eq_nil_of_length_eq_zero (by omega), fun e => ?_, fun e => ?_, fun e => ?_, fun e => ?_⟩
 ·subst e; simpa using h3
 ·subst e; simpa using h4
 ·subst e; simp at h5; exact h5
 ·subst e; simp at h6; exact h6
theorem right_spec {t : Term} (h : right t = true) : Rt t := by
 simp only [right, decide_eq_true_eq] at h
 rw [size_eq] at h
 by_cases h1 : t.knd = 1
 ·rw [if_pos h1] at h
  split at h
  ·rename_i hw
   obtain ⟨_, w2, w3, w4, w5, w6, w7, w8⟩ := wr_spec hw
   refine ⟨fun x hx => (by rw [w4] at hx; cases hx), fun x hx => (by rw [w5] at hx; cases hx), by omega, fun _ => hw, fun e => absurd h1 e, fun e => by omega⟩
  ·omega
 ·rw [if_neg h1] at h
  split at h
  ·rename_i hf
   obtain ⟨f1, f2⟩ := adds_true _ _ hf
   obtain ⟨f3, f4⟩ := adds_true _ _ f1
   simp only at f3
   refine ⟨fun x hx => by simp [right, f4 x hx], fun x hx => by simp [right, f2 x hx], ?_, fun e => absurd e h1, fun _ => ?_, fun h7 => ?_⟩
   ·have := t.knd_nn
    unfold head at f3
    by_cases e2 : t.knd = 2
    ·omega
    by_cases e3 : t.knd = 3 \/ t.knd = 5
    ·omega
    by_cases e4 : t.knd = 4
    ·omega
    by_cases e6 : t.knd = 6
    ·omega
    by_cases e7 : t.knd = 7
    ·omega
    simp [e2, e3, e4, e6, e7] at f3
   ·unfold head at f3
    by_cases e2 : t.knd = 2
    ·rw [if_pos e2] at f3
     simp only [Bool.and_eq_true] at f3
     obtain ⟨b1, b2, b3, b4, b5, b6⟩ := bare_spec f3.1
     exact ⟨b1, b2, fun e => absurd e2 e, fun _ => b6 rfl, fun _ => b4 rfl, fun _ => b5 rfl⟩
    rw [if_neg e2] at f3
    by_cases e3 : t.knd = 3 \/ t.knd = 5
    ·rw [if_pos e3] at f3
     simp only [Bool.and_eq_true] at f3
     obtain ⟨b1, b2, b3, b4, b5, b6⟩ := bare_spec f3.1.1
     exact ⟨b1, b2, fun _ => b3 rfl, fun _ => b6 rfl, fun e => by omega, fun _ => b5 rfl⟩
    rw [if_neg e3] at f3
    by_cases e4 : t.knd = 4
    ·rw [if_pos e4] at f3
     simp only [Bool.and_eq_true] at f3
     obtain ⟨b1, b2, b3, b4, b5, b6⟩ := bare_spec f3.1.1
     exact ⟨b1, b2, fun _ => b3 rfl, fun _ => b6 rfl, fun e => by omega, fun e => by omega⟩
    rw [if_neg e4] at f3
    by_cases e6 : t.knd = 6
    ·rw [if_pos e6] at f3
     obtain ⟨b1, b2, b3, b4, b5, b6⟩ := bare_spec f3
     exact ⟨b1, b2, fun _ => b3 rfl, fun _ => b6 rfl, fun _ => b4 rfl, fun e => by omega⟩
    rw [if_neg e6] at f3
    by_cases e7 : t.knd = 7
    ·rw [if_pos e7] at f3
     simp only [Bool.and_eq_true] at f3
     obtain ⟨b1, b2, b3, b4, b5, b6⟩ := bare_spec f3.1.1
     exact ⟨b1, b2, fun _ => b3 rfl, fun e => absurd e7 e, fun _ => b4 rfl, fun e => by omega⟩
    rw [if_neg e7] at f3
    cases f3
   ·unfold head at f3
    rw [if_neg (by omega), if_neg (by omega), if_neg (by omega), if_neg (by omega), if_pos h7] at f3
    simp only [Bool.and_eq_true, decide_eq_true_eq, List.all_eq_true] at f3
    obtain ⟨⟨_, f5⟩, f6⟩ := f3
    refine ⟨?_, ?_, fun x hx => f6 x hx⟩
    ·split at f5 <;> omega
    ·split at f5 <;> omega
  ·omega
theorem term_ext {a b : Term} (h1 : a.knd = b.knd) (h2 : a.neg = b.neg) (h3 : a.limbs = b.limbs) (h4 : a.text = b.text) (h5 : a.num = b.num) (h6 : a.items = b.items) (h7 : a.tail = b.tail) : a = b := by
 cases a; cases b
 simp only [Term.knd, Term.kind, Term.neg, Term.limbs, Term.text, Term.num, Term.items, Term.tail] at *
 have h1' := UInt8.toNat_inj.1 (Int.ofNat.inj h1)
 subst h1' h2 h3 h4 h5 h6 h7
 rfl
theorem order_kind {a b : Term} (h : a.knd ≠ b.knd) : order a b = cmpI a.knd b.knd := by rw [order_eq2, if_pos h]
def listT (ks ts : List Term) : Term := .mk 7 false [] [] 0 ks ts
def tailOf (t : Term) : Term := match t.tail with | [] => listT [] [] | x :: _ => x
def compare (a b : Term) : Int := if right a = true /\ right b = true then order a b else 0
def sameT (a b : Term) : Bool := right a && right b && decide (order a b = 0)
end
set_option maxRecDepth 20000
section
def tbShort := And.intro (And.intro (And.intro @tf3 (And.intro @tf4 @tf5)) (And.intro (And.intro @tf47 @tf128) (And.intro @tf106 @tf9))) (And.intro (And.intro @tf23 (And.intro @isv_lims @flat_lims)) (And.intro (And.intro @len_lims @ix_lims) (And.intro @ix_lims' @flat_limA)))
variable (G : Nat -> AV)
theorem or_halves (H L : Nat) (hH : H < 4294967296) (hL : L < 4294967296) : (BitVec.ofInt IntKind.u64.bits ((H : Int) * 4294967296) ||| BitVec.ofInt IntKind.u64.bits (L : Int)).toNat = H * 4294967296 + L := by
 have hb : IntKind.u64.bits = 64 := rfl
 rw [hb, BitVec.toNat_or, BitVec.toNat_ofInt, BitVec.toNat_ofInt]
 have e1 : (((H : Int) * 4294967296) % ((2 ^ 64 : Nat) : Int)).toNat = H <<< 32 := by rw [Nat.shiftLeft_eq]; omega
 have e2 : ((L : Int) % ((2 ^ 64 : Nat) : Int)).toNat = L := by omega
 rw [e1, e2, <- Nat.shiftLeft_add_eq_or_of_lt (by omega), Nat.shiftLeft_eq]
theorem u64_wrap {x : Int} (h0 : 0 <= x) (h1 : x < 18446744073709551616) : IntKind.u64.wrap x = x := by
 rw [IntKind.wrap_u64]; omega
theorem u32_wrap {x : Int} (h0 : 0 <= x) (h1 : x < 4294967296) : IntKind.u32.wrap x = x := by
 rw [IntKind.wrap_u32]; omega
theorem div32_pure (H L Y : Nat) (hy : H < Y) (l1 : L < 4294967296) (y1 : Y < 4294967296) : Pure Tryz.prog G 121 [.int .u32 H, .int .u32 L, .int .u32 Y] (.tup [.int .u32 ((H * 4294967296 + L) / Y : Nat), .int .u32 ((H * 4294967296 + L) % Y : Nat)]) := by
 have c1 : ¬ (Y : Int) = 0 := by omega
 have c2 : ¬ (Y : Int) <= H := by omega
 have w1 : IntKind.u64.wrap (Y : Int) = Y := u64_wrap (by omega) (by omega)
 have w2 : IntKind.u64.wrap (H : Int) = H := u64_wrap (by omega) (by omega)
 have w3 : IntKind.u64.wrap (L : Int) = L := u64_wrap (by omega) (by omega)
 have w4 : IntKind.u64.wrap ((H : Int) * 2 ^ min 32 IntKind.u64.bits) = (H : Int) * 4294967296 := by
  have : ((2 : Int) ^ min 32 IntKind.u64.bits) = 4294967296 := by decide
  rw [this]; exact u64_wrap (by omega) (by omega)
 have w5 := or_halves H L (by omega) l1
 have w6 : IntKind.u64.wrap ((H * 4294967296 + L : Nat) : Int) = ((H * 4294967296 + L : Nat) : Int) := u64_wrap (by omega) (by omega)
 have hq : (H * 4294967296 + L) / Y < 4294967296 := by
  rw [Nat.div_lt_iff_lt_mul (by omega)]
  have : (H + 1) * 4294967296 <= Y * 4294967296 := Nat.mul_le_mul_right _ hy
  rw [Nat.mul_comm 4294967296 Y]; omega
 have hr : (H * 4294967296 + L) % Y < Y := Nat.mod_lt _ (by omega)
 have w7 : ((H * 4294967296 + L : Nat) : Int).tdiv (Y : Int) = (((H * 4294967296 + L) / Y : Nat) : Int) := rfl
 have w8 : ((H * 4294967296 + L : Nat) : Int).tmod (Y : Int) = (((H * 4294967296 + L) % Y : Nat) : Int) := rfl
 have w9 : IntKind.u64.wrap ((((H * 4294967296 + L) / Y : Nat)) : Int) = (((H * 4294967296 + L) / Y : Nat) : Int) := u64_wrap (Int.natCast_nonneg _) (by clear w1 w2 w3 w4 w5 w6 w7 w8; generalize (H * 4294967296 + L) / Y = q at *; omega)
 have wa : IntKind.u32.wrap ((((H * 4294967296 + L) / Y : Nat)) : Int) = (((H * 4294967296 + L) / Y : Nat) : Int) := u32_wrap (Int.natCast_nonneg _) (by clear w1 w2 w3 w4 w5 w6 w7 w8; generalize (H * 4294967296 + L) / Y = q at *; omega)
 have wb : IntKind.u32.wrap ((((H * 4294967296 + L) % Y : Nat)) : Int) = (((H * 4294967296 + L) % Y : Nat) : Int) := u32_wrap (Int.natCast_nonneg _) (by clear w1 w2 w3 w4 w5 w6 w7 w8; generalize (H * 4294967296 + L) % Y = q at *; omega)
 generalize H * 4294967296 + L = V at *
 generalize V / Y = q at *
 generalize V % Y = r at *
 clear hq hr hy l1 y1
 intro σ
 refine Tri.of_awp mixed Tryz.func121 rfl (by kernel_rfl) (by kernel_rfl) (by simp [Tryz.ntmps121]) Tryz.results121 ?_
 repeat' (first | refine xs ?_ ?_ <;> intros | (refine wn ?_; intro bx hbx; try simp only [fb] at hbx) | refine wj ?_ | simp -dsimp only [↓bp, bq, br, seval, tbShort, *] | refine wz ?_ | fail)
 all_goals exact finishW_some σ (AS.le.refl _) ⟨rfl, rfl⟩
def val : List UInt32 -> Nat
 | [] => 0
 | x :: l => x.toNat + 4294967296 * val l
theorem val_append (l r : List UInt32) : val (l ++ r) = val l + 4294967296 ^ l.length * val r := by
 induction l with
 | nil => simp [val]
 | cons x l ih => simp only [List.cons_append, val, ih, List.length_cons, Nat.pow_succ]; rw [Nat.mul_add, <- Nat.mul_assoc, Nat.mul_comm (4294967296 ^ l.length) 4294967296]; omega
def divd : List UInt32 -> Nat -> List UInt32 × Nat
 | [], _ => ([], 0)
 | x :: l, by_ => let p := divd l by_; (UInt32.ofNat ((p.2 * 4294967296 + x.toNat) / by_) :: p.1, (p.2 * 4294967296 + x.toNat) % by_)
theorem divd_spec (by_ : Nat) (h0 : 0 < by_) (h1 : by_ < 4294967296) : ∀ l, (divd l by_).1.length = l.length /\ (divd l by_).2 < by_ /\ val l = val (divd l by_).1 * by_ + (divd l by_).2
 | [] => ⟨rfl, h0, by simp [divd, val]⟩
 | x :: l => by
  obtain ⟨a, b, c⟩ := divd_spec by_ h0 h1 l
  simp only [divd, List.length_cons, val, c]
  have hx := x.toNat_lt
  have hq : ((divd l by_).2 * 4294967296 + x.toNat) / by_ < 4294967296 := by
   rw [Nat.div_lt_iff_lt_mul h0]
   have : ((divd l by_).2 + 1) * 4294967296 <= by_ * 4294967296 := Nat.mul_le_mul_right _ b
   rw [Nat.mul_comm 4294967296 by_]; omega
  refine ⟨by rw [a], Nat.mod_lt _ h0, ?_⟩
  have e : (UInt32.ofNat (((divd l by_).2 * 4294967296 + x.toNat) / by_)).toNat = ((divd l by_).2 * 4294967296 + x.toNat) / by_ := by rw [UInt32.toNat_ofNat', Nat.mod_eq_of_lt hq]
  rw [e]
  have hd := Nat.div_add_mod ((divd l by_).2 * 4294967296 + x.toNat) by_
  generalize ((divd l by_).2 * 4294967296 + x.toNat) / by_ = A at *
  generalize ((divd l by_).2 * 4294967296 + x.toNat) % by_ = R at *
  rw [Nat.add_mul, Nat.mul_comm A by_, Nat.mul_assoc 4294967296 (val (divd l by_).1) by_]
  generalize val (divd l by_).1 * by_ = W at *
  generalize by_ * A = B at *
  omega
theorem set_at (k : Nat) (a : AV) (l : List AV) : (List.replicate (k + 1) (AV.int .u32 0) ++ l).take k ++ ([a] ++ (List.replicate (k + 1) (AV.int .u32 0) ++ l).drop (k + 1)) = List.replicate k (.int .u32 0) ++ (a :: l) := by
 rw [List.replicate_succ', List.append_assoc, List.take_append_of_le_length (by simp), List.take_of_length_le (by simp), List.drop_append]
 simp
theorem divq_lt (H L Y : Nat) (hy : H < Y) (l1 : L < 4294967296) : (H * 4294967296 + L) / Y < 4294967296 := by
 rw [Nat.div_lt_iff_lt_mul (by omega)]
 have : (H + 1) * 4294967296 <= Y * 4294967296 := Nat.mul_le_mul_right _ hy
 rw [Nat.mul_comm 4294967296 Y]; omega
theorem flat_lims1 (l : List UInt32) : (l.map limA).flatMap flat = l.map limA := by
 induction l with
 | nil => rfl
 | cons x l ih => rw [List.map_cons, List.flatMap_cons, ih]; rfl
theorem short_pure (l : List UInt32) (by_ : Nat) (h0 : 0 < by_) (h1 : by_ < 4294967296) (hl : l.length <= 1000000000) : Pure Tryz.prog G 76 [lims l, .int .u32 by_] (.tup [lims (divd l by_).1, .int .u32 ((divd l by_).2 : Nat)]) := by
 obtain ⟨s1, s2, s3⟩ := divd_spec by_ h0 h1 l
 have tz : zc Tryz.prog 47 = some [.int .u32 0] := tf47.2.2.2.2.1
 refine Pure.of_le fun σ => Tri.tupBs (n := l.length) (s := 1) (E := 47) (xs := (divd l by_).1.map limA) (fun a ha => by obtain ⟨x, _, rfl⟩ := List.mem_map.1 ha; exact ⟨rfl, rfl⟩) (by simp [s1]) ?_
 have hw0 : IntKind.i64.wrap ((l.length : Int) - 1) = l.length - 1 := wrap_nat (by omega) (by omega)
 refine Tri.of_awp mixed Tryz.func76 rfl (by kernel_rfl) (by kernel_rfl) (by simp [Tryz.ntmps76]) Tryz.results76 ?_
 repeat' (first | refine xs ?_ ?_ <;> intros | (refine wn ?_; intro bx hbx; try simp only [fb] at hbx) | ((refine .inr ?_; unfold amakeM; rw [tfL, tfLE, Option.bind_some, tz]; refine ⟨by omega, Int.le_refl _, by omega, fun b hb => ?_⟩)) | refine wj ?_ | simp -dsimp only [↓bp, bq, br, seval, tbShort, *] | refine wz ?_ | fail)
 refine loop_intro (fun k e σ' => k <= l.length /\ e 8 = .int .i64 ((k : Int) - 1) /\ e 7 = .int .u32 ((divd (l.drop k) by_).2 : Nat) /\ σ.le σ' /\ σ'.box b = some (List.replicate k (.int .u32 0) ++ (divd (l.drop k) by_).1.map limA)) l.length
  ⟨Nat.le_refl _, by first | (simp -dsimp only [↓bp, bq, br, seval, tbShort]; done) | (simp -dsimp only [↓bp, bq, br, seval, tbShort]; try rfl), by rw [List.drop_length]; first | (simp -dsimp only [↓bp, bq, br, seval, tbShort]; done) | (simp -dsimp only [↓bp, bq, br, seval, tbShort]; try rfl), (by repeat' first | exact lr _ | assumption | refine ls ?_ ?_ | refine lt ?_ ?_ | simp only [*]; done | simp only [fb, *, not_false_eq_true, and_self]; done | exact lf ‹_› (by simp only [*])), by rw [List.drop_length]; simp [AS.setBox, divd]⟩ ?_
 rintro k v σ' ⟨hk, h8, h7, hle, hbx⟩
 simp -dsimp only [↓bp, bq, br, seval, tbShort] at h8 h7
 cases k with
 | zero =>
  simp only [List.drop_zero, List.replicate_zero, List.nil_append] at h7 hbx
  simp at h8
  clear hk hw0
  repeat' (first | refine xs ?_ ?_ <;> intros | (refine wn ?_; intro bx hbx; try simp only [fb] at hbx) | refine wj ?_ | simp -dsimp only [↓bp, bq, br, seval, tbShort, *] | refine wz ?_ | fail)
  exact finishW_some _ (AS.le.refl _) ⟨b, rfl, hle, hb.1, hb.2.1, by rw [hbx, flat_lims1]⟩
 | succ k =>
  have e8 : ((k + 1 : Nat) : Int) - 1 = k := by omega
  rw [e8] at h8
  obtain ⟨x, hx⟩ : ∃ x, l[k]? = some x := ⟨_, List.getElem?_eq_getElem (by omega)⟩
  have hd := drop_get _ _ _ hx
  have hkl : k < l.length := by omega
  obtain ⟨q1, q2, q3⟩ := divd_spec by_ h0 h1 (l.drop (k + 1))
  have hdv := div32_pure G (divd (l.drop (k + 1)) by_).2 x.toNat by_ q2 x.toNat_lt h1
  have hstep : divd (l.drop k) by_ = (UInt32.ofNat (((divd (l.drop (k + 1)) by_).2 * 4294967296 + x.toNat) / by_) :: (divd (l.drop (k + 1)) by_).1, ((divd (l.drop (k + 1)) by_).2 * 4294967296 + x.toNat) % by_) := by rw [hd]; rfl
  have hwk : IntKind.i64.wrap ((k : Int) - 1) = k - 1 := wrap_nat (by omega) (by omega)
  have hlt : (k : Int) < l.length := by omega
  have hlen : k < (List.replicate (k + 1) (AV.int .u32 0) ++ (divd (l.drop (k + 1)) by_).1.map limA).length := by simp; omega
  have hk0 : (0 : Int) <= k := by omega
  clear hk hw0 hd s1 s2 s3 q3
  have hql := divq_lt _ x.toNat _ q2 x.toNat_lt
  have hqa : limA (UInt32.ofNat (((divd (l.drop (k + 1)) by_).2 * 4294967296 + x.toNat) / by_)) = .int .u32 ((((divd (l.drop (k + 1)) by_).2 * 4294967296 + x.toNat) / by_ : Nat) : Int) := by
   unfold limA; rw [UInt32.toNat_ofNat', Nat.mod_eq_of_lt hql]
  have hbox : (divd (l.drop k) by_).1.map limA = .int .u32 ((((divd (l.drop (k + 1)) by_).2 * 4294967296 + x.toNat) / by_ : Nat) : Int) :: (divd (l.drop (k + 1)) by_).1.map limA := by rw [hstep, List.map_cons, hqa]
  have hst2 : (divd (l.drop k) by_).2 = ((divd (l.drop (k + 1)) by_).2 * 4294967296 + x.toNat) % by_ := by rw [hstep]
  clear hql hqa hstep
  repeat' (first | refine xs ?_ ?_ <;> intros | (refine wn ?_; intro bx hbx; try simp only [fb] at hbx) | refine wp hdv ?_ | refine wj ?_ | simp -dsimp only [↓bp, bq, br, seval, tbShort, limA, *] | refine wz ?_ | fail)
  refine ⟨k, by omega, by omega, rfl, by rw [hst2], (by repeat' first | exact lr _ | assumption | refine ls ?_ ?_ | refine lt ?_ ?_ | simp only [*]; done | simp only [fb, *, not_false_eq_true, and_self]; done | exact lf ‹_› (by simp only [*])), ?_⟩
  simp only [AS.setBox, if_true, Nat.mul_one]
  rw [hbox, List.append_assoc, set_at]
end
end Go.Proofs.YtdhbdhopnpmboaaGreatDoor
