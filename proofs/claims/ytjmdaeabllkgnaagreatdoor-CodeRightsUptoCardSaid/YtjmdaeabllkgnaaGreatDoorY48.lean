/- Code: the document's right: walked. -/
import Derived.Test.YtjmdaeabllkgnaaGreatDoorY47
set_option linter.unusedVariables false
set_option linter.unusedSimpArgs false
set_option maxRecDepth 20000
set_option linter.defProp false
namespace Go.Proofs.YtjmdaeabllkgnaaGreatDoor
open Go Go.Av
section
def tbRCodD := And.intro (And.intro (And.intro (And.intro @tf3 (And.intro @tf4 @tf5)) (And.intro (And.intro @tf9 @tf124) (And.intro @tf37 @tf39))) (And.intro (And.intro (And.intro @tf23 @tf30) (And.intro @tf53 @tf22)) (And.intro (And.intro @tf26 @tf24) (And.intro @isv_rowOf @flat_rowOf)))) (And.intro (And.intro (And.intro (And.intro @len_rowOf @ix_rowOf) (And.intro @isv_encs @flat_encs)) (And.intro (And.intro @len_encs @Ins.flat_enc) (And.intro @Ins.isv_enc @Ins.fold_enc))) (And.intro (And.intro (And.intro @Ent.flat_enc @Ent.isv_enc) (And.intro @Ent.fold_enc @Cod.flat_enc)) (And.intro (And.intro @Cod.isv_enc @Cod.fold_enc) (And.intro @ares_tmpc @ares_cellc))))
variable (G : Nat -> AV)
set_option maxHeartbeats 16000000 in
theorem rright_core {es : List Ent} {is : List Ins} {cs : List Term} {i : Ins} {b z s : Int} {W F : List UInt8} {w0 nb s1 nm b76 p1 p2 a0 a1 b65 : Bool} {L : List Int} (hL : L.length <= 1000000000)
  (hf : Pure Tryz.prog G 52 [.int .u8 i.opI] (.tup [.str W, .str F])) (ew : (W = []) = (w0 = true)) (hb : Pure Tryz.prog G 90 [i.enc, .str F] (.bool nb)) (es1 : ((4096 : Int) < i.slots.length) = (s1 = true))
  (hn : Pure Tryz.prog G 91 [.agg [rowOf Ent.enc es, rowOf Ins.enc is, encs cs], i.enc] (.bool nm)) (h76 : Pure Tryz.prog G 53 [.str F, .int .u8 76] (.bool b76)) (h65 : Pure Tryz.prog G 53 [.str F, .int .u8 65] (.bool b65))
  (ep1 : (i.l < b) = (p1 = true)) (ep2 : (z <= i.l) = (p2 = true)) (ea0 : (i.a < 0) = (a0 = true)) (ea1 : (s <= i.a) = (a1 = true)) (hr : Pure Tryz.prog G 26 [i.enc] (rowOf intA L)) :
  Pure Tryz.prog G 51 [.agg [rowOf Ent.enc es, rowOf Ins.enc is, encs cs], i.enc, .int .i64 b, .int .i64 z, .int .i64 s] (.bool (!w0 && nb && !s1 && nm && !(b76 && (p1 || p2)) && !(a0 || (a1 && b65)) && L.all (fun n => decide (0 <= n) && decide (n < s)))) := by
 cases w0
 ·cases nb
  ·simp only [Bool.not_true, Bool.not_false, Bool.true_and, Bool.false_and, Bool.and_true, Bool.and_false, Bool.or_true, Bool.or_false, Bool.true_or, Bool.false_or]
   intro σ
   refine Tri.of_awp mixed Tryz.func51 rfl (by kernel_rfl) (by kernel_rfl) (by simp [Tryz.ntmps51]) Tryz.results51 ?_
   repeat' (first | refine xs ?_ ?_ <;> intros | (refine wn ?_; intro bx hbx; try simp only [fb] at hbx) | refine wp hf ?_ | refine wp hb ?_ | refine wp hn ?_ | refine wp h76 ?_ | refine wp h65 ?_ | refine wj ?_ | simp -dsimp only [↓bp, bq, br, seval, tbRCodD, *] | refine wz ?_ | fail)
   all_goals rfl
  ·cases s1
   ·cases nm
    ·simp only [Bool.not_true, Bool.not_false, Bool.true_and, Bool.false_and, Bool.and_true, Bool.and_false, Bool.or_true, Bool.or_false, Bool.true_or, Bool.false_or]
     intro σ
     refine Tri.of_awp mixed Tryz.func51 rfl (by kernel_rfl) (by kernel_rfl) (by simp [Tryz.ntmps51]) Tryz.results51 ?_
     repeat' (first | refine xs ?_ ?_ <;> intros | (refine wn ?_; intro bx hbx; try simp only [fb] at hbx) | refine wp hf ?_ | refine wp hb ?_ | refine wp hn ?_ | refine wp h76 ?_ | refine wp h65 ?_ | refine wj ?_ | simp -dsimp only [↓bp, bq, br, seval, tbRCodD, *] | refine wz ?_ | fail)
     all_goals rfl
    ·cases b76
     ·skip
      cases a0
      ·cases a1
       ·simp only [Bool.not_true, Bool.not_false, Bool.true_and, Bool.false_and, Bool.and_true, Bool.and_false, Bool.or_true, Bool.or_false, Bool.true_or, Bool.false_or]
        intro σ
        refine Tri.of_awp mixed Tryz.func51 rfl (by kernel_rfl) (by kernel_rfl) (by simp [Tryz.ntmps51]) Tryz.results51 ?_
        repeat' (first | refine xs ?_ ?_ <;> intros | (refine wn ?_; intro bx hbx; try simp only [fb] at hbx) | refine wp hf ?_ | refine wp hb ?_ | refine wp hn ?_ | refine wp h76 ?_ | refine wp h65 ?_ | refine wp hr ?_ | refine wj ?_ | simp -dsimp only [↓bp, bq, br, seval, tbRCodD, *] | refine wz ?_ | fail)
        clear hf hb hn h76 h65 hr ew es1 ep1 ep2 ea0 ea1
        refine loop_keep mixed (fun n e => ∃ k : Nat, k <= L.length /\ n = L.length - k /\ e 14 = .int .i64 k /\ (L.take k).all (fun n => decide (0 <= n) && decide (n < s)) = true) L.length
         ⟨0, by omega, by omega, by first | (simp -dsimp only [↓bp, bq, br, seval, tbRCodD]; done) | (simp -dsimp only [↓bp, bq, br, seval, tbRCodD]; try rfl), by simp⟩ ?_
        rintro n e ⟨k, hk, rfl, h14, hA⟩
        simp -dsimp only [↓bp, bq, br, seval, tbRCodD] at h14
        by_cases hlt : k < L.length
        ·have hlt' : ((k : Int) < L.length) = True := eq_true (by omega)
         obtain ⟨x, hx⟩ : ∃ x, L[k]? = some x := ⟨_, List.getElem?_eq_getElem hlt⟩
         have hwk : IntKind.i64.wrap ((k : Int) + 1) = ((k + 1 : Nat) : Int) := by rw [wrap_nat (by omega) (by omega)]; rfl
         have hxm := List.mem_of_getElem? hx
         by_cases h1 : x < 0
         ·have h1' := eq_true h1
          have hf : L.all (fun n => decide (0 <= n) && decide (n < s)) = false := List.all_eq_false.2 ⟨x, hxm, by simp; omega⟩
          rw [hf]
          clear hf hA hxm h1 hL hlt hk
          repeat' (first | refine xs ?_ ?_ <;> intros | (refine wn ?_; intro bx hbx; try simp only [fb] at hbx) | refine wj ?_ | simp -dsimp only [↓bp, bq, br, seval, tbRCodD, intA, *] | refine wz ?_ | fail)
          all_goals rfl
         ·have h1' := eq_false h1
          by_cases h2 : s <= x
          ·have h2' := eq_true h2
           have hf : L.all (fun n => decide (0 <= n) && decide (n < s)) = false := List.all_eq_false.2 ⟨x, hxm, by simp; omega⟩
           rw [hf]
           clear hf hA hxm h1 h2 hL hlt hk
           repeat' (first | refine xs ?_ ?_ <;> intros | (refine wn ?_; intro bx hbx; try simp only [fb] at hbx) | refine wj ?_ | simp -dsimp only [↓bp, bq, br, seval, tbRCodD, intA, *] | refine wz ?_ | fail)
           all_goals rfl
          ·have h2' := eq_false h2
           have hA2 : (L.take (k + 1)).all (fun n => decide (0 <= n) && decide (n < s)) = true := by
            rw [take_succ_get _ _ _ hx, List.all_append, hA]
            simp; omega
           clear hA hxm h1 h2
           repeat' (first | refine xs ?_ ?_ <;> intros | (refine wn ?_; intro bx hbx; try simp only [fb] at hbx) | refine wj ?_ | simp -dsimp only [↓bp, bq, br, seval, tbRCodD, intA, *] | refine wz ?_ | fail)
           all_goals exact ⟨L.length - (k + 1), by omega, k + 1, by omega, rfl, rfl, hA2⟩
        ·have : k = L.length := by omega
         subst this
         have hlt' : ((L.length : Int) < L.length) = False := eq_false (by omega)
         rw [List.take_length] at hA
         rw [hA]
         clear hA hlt hk hL
         repeat' (first | refine xs ?_ ?_ <;> intros | (refine wn ?_; intro bx hbx; try simp only [fb] at hbx) | refine wj ?_ | simp -dsimp only [↓bp, bq, br, seval, tbRCodD, *] | refine wz ?_ | fail)
         all_goals rfl
       ·cases b65
        ·simp only [Bool.not_true, Bool.not_false, Bool.true_and, Bool.false_and, Bool.and_true, Bool.and_false, Bool.or_true, Bool.or_false, Bool.true_or, Bool.false_or]
         intro σ
         refine Tri.of_awp mixed Tryz.func51 rfl (by kernel_rfl) (by kernel_rfl) (by simp [Tryz.ntmps51]) Tryz.results51 ?_
         repeat' (first | refine xs ?_ ?_ <;> intros | (refine wn ?_; intro bx hbx; try simp only [fb] at hbx) | refine wp hf ?_ | refine wp hb ?_ | refine wp hn ?_ | refine wp h76 ?_ | refine wp h65 ?_ | refine wp hr ?_ | refine wj ?_ | simp -dsimp only [↓bp, bq, br, seval, tbRCodD, *] | refine wz ?_ | fail)
         clear hf hb hn h76 h65 hr ew es1 ep1 ep2 ea0 ea1
         refine loop_keep mixed (fun n e => ∃ k : Nat, k <= L.length /\ n = L.length - k /\ e 14 = .int .i64 k /\ (L.take k).all (fun n => decide (0 <= n) && decide (n < s)) = true) L.length
          ⟨0, by omega, by omega, by first | (simp -dsimp only [↓bp, bq, br, seval, tbRCodD]; done) | (simp -dsimp only [↓bp, bq, br, seval, tbRCodD]; try rfl), by simp⟩ ?_
         rintro n e ⟨k, hk, rfl, h14, hA⟩
         simp -dsimp only [↓bp, bq, br, seval, tbRCodD] at h14
         by_cases hlt : k < L.length
         ·have hlt' : ((k : Int) < L.length) = True := eq_true (by omega)
          obtain ⟨x, hx⟩ : ∃ x, L[k]? = some x := ⟨_, List.getElem?_eq_getElem hlt⟩
          have hwk : IntKind.i64.wrap ((k : Int) + 1) = ((k + 1 : Nat) : Int) := by rw [wrap_nat (by omega) (by omega)]; rfl
          have hxm := List.mem_of_getElem? hx
          by_cases h1 : x < 0
          ·have h1' := eq_true h1
           have hf : L.all (fun n => decide (0 <= n) && decide (n < s)) = false := List.all_eq_false.2 ⟨x, hxm, by simp; omega⟩
           rw [hf]
           clear hf hA hxm h1 hL hlt hk
           repeat' (first | refine xs ?_ ?_ <;> intros | (refine wn ?_; intro bx hbx; try simp only [fb] at hbx) | refine wj ?_ | simp -dsimp only [↓bp, bq, br, seval, tbRCodD, intA, *] | refine wz ?_ | fail)
           all_goals rfl
          ·have h1' := eq_false h1
           by_cases h2 : s <= x
           ·have h2' := eq_true h2
            have hf : L.all (fun n => decide (0 <= n) && decide (n < s)) = false := List.all_eq_false.2 ⟨x, hxm, by simp; omega⟩
            rw [hf]
            clear hf hA hxm h1 h2 hL hlt hk
            repeat' (first | refine xs ?_ ?_ <;> intros | (refine wn ?_; intro bx hbx; try simp only [fb] at hbx) | refine wj ?_ | simp -dsimp only [↓bp, bq, br, seval, tbRCodD, intA, *] | refine wz ?_ | fail)
            all_goals rfl
           ·have h2' := eq_false h2
            have hA2 : (L.take (k + 1)).all (fun n => decide (0 <= n) && decide (n < s)) = true := by
             rw [take_succ_get _ _ _ hx, List.all_append, hA]
             simp; omega
            clear hA hxm h1 h2
            repeat' (first | refine xs ?_ ?_ <;> intros | (refine wn ?_; intro bx hbx; try simp only [fb] at hbx) | refine wj ?_ | simp -dsimp only [↓bp, bq, br, seval, tbRCodD, intA, *] | refine wz ?_ | fail)
            all_goals exact ⟨L.length - (k + 1), by omega, k + 1, by omega, rfl, rfl, hA2⟩
         ·have : k = L.length := by omega
          subst this
          have hlt' : ((L.length : Int) < L.length) = False := eq_false (by omega)
          rw [List.take_length] at hA
          rw [hA]
          clear hA hlt hk hL
          repeat' (first | refine xs ?_ ?_ <;> intros | (refine wn ?_; intro bx hbx; try simp only [fb] at hbx) | refine wj ?_ | simp -dsimp only [↓bp, bq, br, seval, tbRCodD, *] | refine wz ?_ | fail)
          all_goals rfl
        ·simp only [Bool.not_true, Bool.not_false, Bool.true_and, Bool.false_and, Bool.and_true, Bool.and_false, Bool.or_true, Bool.or_false, Bool.true_or, Bool.false_or]
         intro σ
         refine Tri.of_awp mixed Tryz.func51 rfl (by kernel_rfl) (by kernel_rfl) (by simp [Tryz.ntmps51]) Tryz.results51 ?_
         repeat' (first | refine xs ?_ ?_ <;> intros | (refine wn ?_; intro bx hbx; try simp only [fb] at hbx) | refine wp hf ?_ | refine wp hb ?_ | refine wp hn ?_ | refine wp h76 ?_ | refine wp h65 ?_ | refine wj ?_ | simp -dsimp only [↓bp, bq, br, seval, tbRCodD, *] | refine wz ?_ | fail)
         all_goals rfl
      ·simp only [Bool.not_true, Bool.not_false, Bool.true_and, Bool.false_and, Bool.and_true, Bool.and_false, Bool.or_true, Bool.or_false, Bool.true_or, Bool.false_or]
       intro σ
       refine Tri.of_awp mixed Tryz.func51 rfl (by kernel_rfl) (by kernel_rfl) (by simp [Tryz.ntmps51]) Tryz.results51 ?_
       repeat' (first | refine xs ?_ ?_ <;> intros | (refine wn ?_; intro bx hbx; try simp only [fb] at hbx) | refine wp hf ?_ | refine wp hb ?_ | refine wp hn ?_ | refine wp h76 ?_ | refine wp h65 ?_ | refine wj ?_ | simp -dsimp only [↓bp, bq, br, seval, tbRCodD, *] | refine wz ?_ | fail)
       all_goals rfl
     ·cases p1
      ·cases p2
       ·skip
        cases a0
        ·cases a1
         ·simp only [Bool.not_true, Bool.not_false, Bool.true_and, Bool.false_and, Bool.and_true, Bool.and_false, Bool.or_true, Bool.or_false, Bool.true_or, Bool.false_or]
          intro σ
          refine Tri.of_awp mixed Tryz.func51 rfl (by kernel_rfl) (by kernel_rfl) (by simp [Tryz.ntmps51]) Tryz.results51 ?_
          repeat' (first | refine xs ?_ ?_ <;> intros | (refine wn ?_; intro bx hbx; try simp only [fb] at hbx) | refine wp hf ?_ | refine wp hb ?_ | refine wp hn ?_ | refine wp h76 ?_ | refine wp h65 ?_ | refine wp hr ?_ | refine wj ?_ | simp -dsimp only [↓bp, bq, br, seval, tbRCodD, *] | refine wz ?_ | fail)
          clear hf hb hn h76 h65 hr ew es1 ep1 ep2 ea0 ea1
          refine loop_keep mixed (fun n e => ∃ k : Nat, k <= L.length /\ n = L.length - k /\ e 14 = .int .i64 k /\ (L.take k).all (fun n => decide (0 <= n) && decide (n < s)) = true) L.length
           ⟨0, by omega, by omega, by first | (simp -dsimp only [↓bp, bq, br, seval, tbRCodD]; done) | (simp -dsimp only [↓bp, bq, br, seval, tbRCodD]; try rfl), by simp⟩ ?_
          rintro n e ⟨k, hk, rfl, h14, hA⟩
          simp -dsimp only [↓bp, bq, br, seval, tbRCodD] at h14
          by_cases hlt : k < L.length
          ·have hlt' : ((k : Int) < L.length) = True := eq_true (by omega)
           obtain ⟨x, hx⟩ : ∃ x, L[k]? = some x := ⟨_, List.getElem?_eq_getElem hlt⟩
           have hwk : IntKind.i64.wrap ((k : Int) + 1) = ((k + 1 : Nat) : Int) := by rw [wrap_nat (by omega) (by omega)]; rfl
           have hxm := List.mem_of_getElem? hx
           by_cases h1 : x < 0
           ·have h1' := eq_true h1
            have hf : L.all (fun n => decide (0 <= n) && decide (n < s)) = false := List.all_eq_false.2 ⟨x, hxm, by simp; omega⟩
            rw [hf]
            clear hf hA hxm h1 hL hlt hk
            repeat' (first | refine xs ?_ ?_ <;> intros | (refine wn ?_; intro bx hbx; try simp only [fb] at hbx) | refine wj ?_ | simp -dsimp only [↓bp, bq, br, seval, tbRCodD, intA, *] | refine wz ?_ | fail)
            all_goals rfl
           ·have h1' := eq_false h1
            by_cases h2 : s <= x
            ·have h2' := eq_true h2
             have hf : L.all (fun n => decide (0 <= n) && decide (n < s)) = false := List.all_eq_false.2 ⟨x, hxm, by simp; omega⟩
             rw [hf]
             clear hf hA hxm h1 h2 hL hlt hk
             repeat' (first | refine xs ?_ ?_ <;> intros | (refine wn ?_; intro bx hbx; try simp only [fb] at hbx) | refine wj ?_ | simp -dsimp only [↓bp, bq, br, seval, tbRCodD, intA, *] | refine wz ?_ | fail)
             all_goals rfl
            ·have h2' := eq_false h2
             have hA2 : (L.take (k + 1)).all (fun n => decide (0 <= n) && decide (n < s)) = true := by
              rw [take_succ_get _ _ _ hx, List.all_append, hA]
              simp; omega
             clear hA hxm h1 h2
             repeat' (first | refine xs ?_ ?_ <;> intros | (refine wn ?_; intro bx hbx; try simp only [fb] at hbx) | refine wj ?_ | simp -dsimp only [↓bp, bq, br, seval, tbRCodD, intA, *] | refine wz ?_ | fail)
             all_goals exact ⟨L.length - (k + 1), by omega, k + 1, by omega, rfl, rfl, hA2⟩
          ·have : k = L.length := by omega
           subst this
           have hlt' : ((L.length : Int) < L.length) = False := eq_false (by omega)
           rw [List.take_length] at hA
           rw [hA]
           clear hA hlt hk hL
           repeat' (first | refine xs ?_ ?_ <;> intros | (refine wn ?_; intro bx hbx; try simp only [fb] at hbx) | refine wj ?_ | simp -dsimp only [↓bp, bq, br, seval, tbRCodD, *] | refine wz ?_ | fail)
           all_goals rfl
         ·cases b65
          ·simp only [Bool.not_true, Bool.not_false, Bool.true_and, Bool.false_and, Bool.and_true, Bool.and_false, Bool.or_true, Bool.or_false, Bool.true_or, Bool.false_or]
           intro σ
           refine Tri.of_awp mixed Tryz.func51 rfl (by kernel_rfl) (by kernel_rfl) (by simp [Tryz.ntmps51]) Tryz.results51 ?_
           repeat' (first | refine xs ?_ ?_ <;> intros | (refine wn ?_; intro bx hbx; try simp only [fb] at hbx) | refine wp hf ?_ | refine wp hb ?_ | refine wp hn ?_ | refine wp h76 ?_ | refine wp h65 ?_ | refine wp hr ?_ | refine wj ?_ | simp -dsimp only [↓bp, bq, br, seval, tbRCodD, *] | refine wz ?_ | fail)
           clear hf hb hn h76 h65 hr ew es1 ep1 ep2 ea0 ea1
           refine loop_keep mixed (fun n e => ∃ k : Nat, k <= L.length /\ n = L.length - k /\ e 14 = .int .i64 k /\ (L.take k).all (fun n => decide (0 <= n) && decide (n < s)) = true) L.length
            ⟨0, by omega, by omega, by first | (simp -dsimp only [↓bp, bq, br, seval, tbRCodD]; done) | (simp -dsimp only [↓bp, bq, br, seval, tbRCodD]; try rfl), by simp⟩ ?_
           rintro n e ⟨k, hk, rfl, h14, hA⟩
           simp -dsimp only [↓bp, bq, br, seval, tbRCodD] at h14
           by_cases hlt : k < L.length
           ·have hlt' : ((k : Int) < L.length) = True := eq_true (by omega)
            obtain ⟨x, hx⟩ : ∃ x, L[k]? = some x := ⟨_, List.getElem?_eq_getElem hlt⟩
            have hwk : IntKind.i64.wrap ((k : Int) + 1) = ((k + 1 : Nat) : Int) := by rw [wrap_nat (by omega) (by omega)]; rfl
            have hxm := List.mem_of_getElem? hx
            by_cases h1 : x < 0
            ·have h1' := eq_true h1
             have hf : L.all (fun n => decide (0 <= n) && decide (n < s)) = false := List.all_eq_false.2 ⟨x, hxm, by simp; omega⟩
             rw [hf]
             clear hf hA hxm h1 hL hlt hk
             repeat' (first | refine xs ?_ ?_ <;> intros | (refine wn ?_; intro bx hbx; try simp only [fb] at hbx) | refine wj ?_ | simp -dsimp only [↓bp, bq, br, seval, tbRCodD, intA, *] | refine wz ?_ | fail)
             all_goals rfl
            ·have h1' := eq_false h1
             by_cases h2 : s <= x
             ·have h2' := eq_true h2
              have hf : L.all (fun n => decide (0 <= n) && decide (n < s)) = false := List.all_eq_false.2 ⟨x, hxm, by simp; omega⟩
              rw [hf]
              clear hf hA hxm h1 h2 hL hlt hk
              repeat' (first | refine xs ?_ ?_ <;> intros | (refine wn ?_; intro bx hbx; try simp only [fb] at hbx) | refine wj ?_ | simp -dsimp only [↓bp, bq, br, seval, tbRCodD, intA, *] | refine wz ?_ | fail)
              all_goals rfl
             ·have h2' := eq_false h2
              have hA2 : (L.take (k + 1)).all (fun n => decide (0 <= n) && decide (n < s)) = true := by
               rw [take_succ_get _ _ _ hx, List.all_append, hA]
               simp; omega
              clear hA hxm h1 h2
              repeat' (first | refine xs ?_ ?_ <;> intros | (refine wn ?_; intro bx hbx; try simp only [fb] at hbx) | refine wj ?_ | simp -dsimp only [↓bp, bq, br, seval, tbRCodD, intA, *] | refine wz ?_ | fail)
              all_goals exact ⟨L.length - (k + 1), by omega, k + 1, by omega, rfl, rfl, hA2⟩
           ·have : k = L.length := by omega
            subst this
            have hlt' : ((L.length : Int) < L.length) = False := eq_false (by omega)
            rw [List.take_length] at hA
            rw [hA]
            clear hA hlt hk hL
            repeat' (first | refine xs ?_ ?_ <;> intros | (refine wn ?_; intro bx hbx; try simp only [fb] at hbx) | refine wj ?_ | simp -dsimp only [↓bp, bq, br, seval, tbRCodD, *] | refine wz ?_ | fail)
            all_goals rfl
          ·simp only [Bool.not_true, Bool.not_false, Bool.true_and, Bool.false_and, Bool.and_true, Bool.and_false, Bool.or_true, Bool.or_false, Bool.true_or, Bool.false_or]
           intro σ
           refine Tri.of_awp mixed Tryz.func51 rfl (by kernel_rfl) (by kernel_rfl) (by simp [Tryz.ntmps51]) Tryz.results51 ?_
           repeat' (first | refine xs ?_ ?_ <;> intros | (refine wn ?_; intro bx hbx; try simp only [fb] at hbx) | refine wp hf ?_ | refine wp hb ?_ | refine wp hn ?_ | refine wp h76 ?_ | refine wp h65 ?_ | refine wj ?_ | simp -dsimp only [↓bp, bq, br, seval, tbRCodD, *] | refine wz ?_ | fail)
           all_goals rfl
        ·simp only [Bool.not_true, Bool.not_false, Bool.true_and, Bool.false_and, Bool.and_true, Bool.and_false, Bool.or_true, Bool.or_false, Bool.true_or, Bool.false_or]
         intro σ
         refine Tri.of_awp mixed Tryz.func51 rfl (by kernel_rfl) (by kernel_rfl) (by simp [Tryz.ntmps51]) Tryz.results51 ?_
         repeat' (first | refine xs ?_ ?_ <;> intros | (refine wn ?_; intro bx hbx; try simp only [fb] at hbx) | refine wp hf ?_ | refine wp hb ?_ | refine wp hn ?_ | refine wp h76 ?_ | refine wp h65 ?_ | refine wj ?_ | simp -dsimp only [↓bp, bq, br, seval, tbRCodD, *] | refine wz ?_ | fail)
         all_goals rfl
       ·simp only [Bool.not_true, Bool.not_false, Bool.true_and, Bool.false_and, Bool.and_true, Bool.and_false, Bool.or_true, Bool.or_false, Bool.true_or, Bool.false_or]
        intro σ
        refine Tri.of_awp mixed Tryz.func51 rfl (by kernel_rfl) (by kernel_rfl) (by simp [Tryz.ntmps51]) Tryz.results51 ?_
        repeat' (first | refine xs ?_ ?_ <;> intros | (refine wn ?_; intro bx hbx; try simp only [fb] at hbx) | refine wp hf ?_ | refine wp hb ?_ | refine wp hn ?_ | refine wp h76 ?_ | refine wp h65 ?_ | refine wj ?_ | simp -dsimp only [↓bp, bq, br, seval, tbRCodD, *] | refine wz ?_ | fail)
        all_goals rfl
      ·simp only [Bool.not_true, Bool.not_false, Bool.true_and, Bool.false_and, Bool.and_true, Bool.and_false, Bool.or_true, Bool.or_false, Bool.true_or, Bool.false_or]
       intro σ
       refine Tri.of_awp mixed Tryz.func51 rfl (by kernel_rfl) (by kernel_rfl) (by simp [Tryz.ntmps51]) Tryz.results51 ?_
       repeat' (first | refine xs ?_ ?_ <;> intros | (refine wn ?_; intro bx hbx; try simp only [fb] at hbx) | refine wp hf ?_ | refine wp hb ?_ | refine wp hn ?_ | refine wp h76 ?_ | refine wp h65 ?_ | refine wj ?_ | simp -dsimp only [↓bp, bq, br, seval, tbRCodD, *] | refine wz ?_ | fail)
       all_goals rfl
   ·simp only [Bool.not_true, Bool.not_false, Bool.true_and, Bool.false_and, Bool.and_true, Bool.and_false, Bool.or_true, Bool.or_false, Bool.true_or, Bool.false_or]
    intro σ
    refine Tri.of_awp mixed Tryz.func51 rfl (by kernel_rfl) (by kernel_rfl) (by simp [Tryz.ntmps51]) Tryz.results51 ?_
    repeat' (first | refine xs ?_ ?_ <;> intros | (refine wn ?_; intro bx hbx; try simp only [fb] at hbx) | refine wp hf ?_ | refine wp hb ?_ | refine wp hn ?_ | refine wp h76 ?_ | refine wp h65 ?_ | refine wj ?_ | simp -dsimp only [↓bp, bq, br, seval, tbRCodD, *] | refine wz ?_ | fail)
    all_goals rfl
 ·simp only [Bool.not_true, Bool.not_false, Bool.true_and, Bool.false_and, Bool.and_true, Bool.and_false, Bool.or_true, Bool.or_false, Bool.true_or, Bool.false_or]
  intro σ
  refine Tri.of_awp mixed Tryz.func51 rfl (by kernel_rfl) (by kernel_rfl) (by simp [Tryz.ntmps51]) Tryz.results51 ?_
  repeat' (first | refine xs ?_ ?_ <;> intros | (refine wn ?_; intro bx hbx; try simp only [fb] at hbx) | refine wp hf ?_ | refine wp hb ?_ | refine wp hn ?_ | refine wp h76 ?_ | refine wp h65 ?_ | refine wj ?_ | simp -dsimp only [↓bp, bq, br, seval, tbRCodD, *] | refine wz ?_ | fail)
  all_goals rfl
end
set_option maxRecDepth 20000
section
variable (G : Nat -> AV)
theorem rinsRight_pure (c : Cod) (e : Ent) (b z : Int) (i : Ins) (hi : i.bulk <= 1000000) : Pure Tryz.prog G 51 [c.enc, i.enc, .int .i64 b, .int .i64 z, .int .i64 e.slots] (.bool (insRight c e b z i)) := by
 obtain ⟨es, is, cs⟩ := c
 have hlt : (reads i).length <= 1000000000 := by
  have h1 := readsF_len i (shpOf i.op).fields
  have hfa := op_all (p := fun op => asciiF (shpOf op).fields) fields_ascii i.op
  have hfl : (shpOf i.op).fields.length <= 4 := by unfold asciiF at hfa; rw [Bool.and_eq_true, decide_eq_true_eq] at hfa; exact hfa.1
  have hsl : i.slots.length <= 1000000 := by unfold Ins.bulk at hi; omega
  exact Nat.le_trans h1 (Nat.le_trans (Nat.mul_le_mul hfl (Nat.add_le_add_right hsl 1)) (by omega))
 have h := rright_core G (es := es) (is := is) (cs := cs) (i := i) (b := b) (z := z) (s := e.slots) (w0 := decide (rW i.op = [])) (s1 := decide ((4096 : Int) < i.slots.length)) (p1 := decide (i.l < b)) (p2 := decide (z <= i.l)) (a0 := decide (i.a < 0)) (a1 := decide (e.slots <= i.a)) hlt
  (rfields_pure G i.op) (by simp) (rbare_pure G i) (by simp) (rnamed_pure G ⟨es, is, cs⟩ i (by omega)) (rh_pure G i.op 76) (rh_pure G i.op 65) (by simp) (by simp) (by simp) (by simp) (rreads_pure G i (by omega))
 rw [right_eq]
 unfold rRight
 rw [<- reads_eq]
 have e1 : decide (i.slots.length <= 4096) = !decide ((4096 : Int) < i.slots.length) := by
  rw [Bool.eq_iff_iff]; simp only [decide_eq_true_eq, Bool.not_eq_true', decide_eq_false_iff_not]; omega
 have e2 : (reads i).all (slotOK e) = (reads i).all (fun n => decide (0 <= n) && decide (n < e.slots)) := rfl
 rw [e1, e2]
 exact h
end
end Go.Proofs.YtjmdaeabllkgnaaGreatDoor
