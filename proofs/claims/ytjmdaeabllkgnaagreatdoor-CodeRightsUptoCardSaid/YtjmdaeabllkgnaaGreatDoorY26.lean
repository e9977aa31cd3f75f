/- Code: is a code more than is gone through in time? -/
import Derived.Test.YtjmdaeabllkgnaaGreatDoorY24
import Derived.Test.YtjmdaeabllkgnaaGreatDoorY13
import Derived.Test.YtjmdaeabllkgnaaGreatDoorY25
set_option linter.unusedVariables false
set_option linter.unusedSimpArgs false
set_option maxRecDepth 20000
set_option linter.defProp false
namespace Go.Proofs.YtjmdaeabllkgnaaGreatDoor
open Go Go.Av
section
def tbGreatC := And.intro (And.intro (And.intro (And.intro (And.intro @tf3 @tf4) (And.intro @tf5 @tf9)) (And.intro (And.intro @tf37 @tf39) (And.intro @tf23 (And.intro @tf30 @tf53)))) (And.intro (And.intro (And.intro @tf22 @tf26) (And.intro @tf24 (And.intro @tf58 @tf55))) (And.intro (And.intro @tf56 @tf169) (And.intro @isv_rowOf (And.intro @flat_rowOf @len_rowOf))))) (And.intro (And.intro (And.intro (And.intro @ix_rowOf @isv_encs) (And.intro @flat_encs @len_encs)) (And.intro (And.intro @ix_encs @Ins.flat_enc) (And.intro @Ins.isv_enc (And.intro @Ins.fold_enc @Ent.flat_enc)))) (And.intro (And.intro (And.intro @Ent.isv_enc @Ent.fold_enc) (And.intro @Cod.flat_enc (And.intro @Cod.isv_enc @Cod.fold_enc))) (And.intro (And.intro @ares_tmpc @ares_cellc) (And.intro @Term.fold_enc (And.intro @Term.isv_enc @Term.flat_enc)))))
variable {G : Nat -> AV}
def gI : List Ins -> Int -> Int
 | [], n => n
 | x :: l, n => if n <= 8000 then gI l (n + x.slots.length + (x.text.length / 20 : Nat)) else n
def gE : List Ent -> Int -> Int
 | [], n => n
 | x :: l, n => if n <= 8000 then gE l (n + (x.name.length / 20 : Nat)) else n
def gC : List Term -> Int -> Int
 | [], n => n
 | x :: l, n => if n <= 8000 then gC l (if x.knd = 2 then n else n + termsOf x 8000) else n
def greatN (c : Cod) : Int := gC c.consts (gE c.entries (gI c.instrs ((c.instrs.length / 8 : Nat) + (c.entries.length / 8 : Nat) + (c.consts.length / 8 : Nat))))
def greatC (c : Cod) : Bool := decide (8000 < greatN c)
theorem wquo (n k : Nat) (hn : n <= 1000000000000) : IntKind.i64.wrap ((n : Int).tdiv (k : Int)) = ((n / k : Nat) : Int) := by
 have h1 := Nat.div_le_self n k
 rw [Int.tdiv_eq_ediv_of_nonneg (by omega)]
 have : (n : Int) / (k : Int) = ((n / k : Nat) : Int) := by simp
 rw [this]
 generalize n / k = m at *
 rw [wrap_nat (by omega) (by omega)]
theorem wadd {a b : Int} (ha : 0 <= a) (hb : 0 <= b) (ha1 : a <= 1000000000000) (hb1 : b <= 1000000000000) : IntKind.i64.wrap (a + b) = a + b := wrap_nat (by omega) (by omega)
theorem gI_over (l : List Ins) {n : Int} (h : ¬ n <= 8000) : gI l n = n := by cases l <;> simp [gI, h]
theorem gE_over (l : List Ent) {n : Int} (h : ¬ n <= 8000) : gE l n = n := by cases l <;> simp [gE, h]
theorem gC_over (l : List Term) {n : Int} (h : ¬ n <= 8000) : gC l n = n := by cases l <;> simp [gC, h]
set_option maxHeartbeats 4000000 in
theorem greatC_pure (c : Cod) (hc : c.bulk <= 1000000000) : Pure Tryz.prog G 8 [c.enc] (.bool (greatC c)) := by
 obtain ⟨es, is, cs⟩ := c
 have hb3 : bulkL Ent.bulk es <= 1000000000 /\ bulkL Ins.bulk is <= 1000000000 /\ bulks cs <= 1000000000 := by unfold Cod.bulk at hc; simp only at hc; omega
 have hle : es.length <= 1000000000 := Nat.le_trans (len_bulkL Ent.bulk_pos es) hb3.1
 have hli : is.length <= 1000000000 := Nat.le_trans (len_bulkL Ins.bulk_pos is) hb3.2.1
 have hlc : cs.length <= 1000000000 := by have := len_le_bulks cs; omega
 have hce : (⟨es, is, cs⟩ : Cod).enc = .agg [rowOf Ent.enc es, rowOf Ins.enc is, encs cs] := rfl
 rw [hce]
 obtain ⟨z0, hz0⟩ : ∃ z0 : Int, z0 = (is.length / 8 : Nat) + (es.length / 8 : Nat) + (cs.length / 8 : Nat) := ⟨_, rfl⟩
 have hq : IntKind.i64.wrap (IntKind.i64.wrap (IntKind.i64.wrap ((is.length : Int).tdiv 8) + IntKind.i64.wrap ((es.length : Int).tdiv 8)) + IntKind.i64.wrap ((cs.length : Int).tdiv 8)) = z0 := by
  rw [show (8 : Int) = ((8 : Nat) : Int) from rfl, wquo _ _ (by omega), wquo _ _ (by omega), wquo _ _ (by omega), wadd (a := ((is.length / 8 : Nat) : Int)) (b := ((es.length / 8 : Nat) : Int)) (by omega) (by omega) (by omega) (by omega), wadd (by omega) (by omega) (by omega) (by omega), hz0]
 have hv : greatN ⟨es, is, cs⟩ = gC cs (gE es (gI is z0)) := by unfold greatN; rw [hz0]
 unfold greatC
 rw [hv]
 have hz1 : 0 <= z0 /\ z0 <= 4000000000 := by omega
 clear hz0 hv hc hce
 intro σ
 refine Tri.of_awp mixed Tryz.func8 rfl (by kernel_rfl) (by kernel_rfl) (by simp [Tryz.ntmps8]) Tryz.results8 ?_
 repeat' (first | refine xs ?_ ?_ <;> intros | (refine wn ?_; intro bx hbx; try simp only [fb] at hbx) | refine wj ?_ | simp -dsimp only [↓bp, bq, br, seval, tbGreatC, hq, *] | refine wz ?_ | fail)
 refine loop_keep mixed (fun n e => ∃ (i : Nat) (z : Int), i <= is.length /\ n = is.length - i /\ e 4 = .int .i64 i /\ e 3 = .int .i64 z /\ 0 <= z /\ z <= 4000000000 /\ gI (is.drop i) z = gI is z0) is.length
  ⟨0, z0, by omega, by omega, by first | (simp -dsimp only [↓bp, bq, br, seval, tbGreatC]; done) | (simp -dsimp only [↓bp, bq, br, seval, tbGreatC]; try rfl), by first | (simp -dsimp only [↓bp, bq, br, seval, tbGreatC]; done) | (simp -dsimp only [↓bp, bq, br, seval, tbGreatC]; try rfl), hz1.1, hz1.2, by rw [List.drop_zero]⟩ ?_
 rintro n v ⟨i, z, hi, rfl, h4, h3, hz0, hz2, hz⟩
 simp -dsimp only [↓bp, bq, br, seval, tbGreatC] at h4
 simp -dsimp only [↓bp, bq, br, seval, tbGreatC] at h3
 by_cases hlt : i < is.length
 ·have hlt' : ((i : Int) < is.length) = True := eq_true (by omega)
  obtain ⟨x, hk⟩ : ∃ x, is[i]? = some x := ⟨_, List.getElem?_eq_getElem hlt⟩
  have hdr := drop_get _ _ _ hk
  by_cases hn : z <= 8000
  ·have hn' := eq_true hn
   have hxl : x.text.length <= 1000000000 /\ x.slots.length <= 1000000000 := by have h := bulkL_mem (f := Ins.bulk) (List.mem_of_getElem? hk); have h' : x.text.length <= x.bulk /\ x.slots.length <= x.bulk := (by unfold Ins.bulk; omega); omega
   have hxl2 := Nat.div_le_self x.text.length 20
   have hw1 : IntKind.i64.wrap ((i : Int) + 1) = ((i + 1 : Nat) : Int) := by rw [wrap_nat (by omega) (by omega)]; rfl
   have hw2 : IntKind.i64.wrap (IntKind.i64.wrap (z + (x.slots.length : Int)) + IntKind.i64.wrap ((x.text.length : Int).tdiv 20)) = z + x.slots.length + (x.text.length / 20 : Nat) := by
    rw [show (20 : Int) = ((20 : Nat) : Int) from rfl, wquo _ _ (by omega), wadd (a := z) (by omega) (by omega) (by omega) (by omega), wadd (by omega) (by omega) (by omega) (by omega)]
   have hz3 : gI (is.drop (i + 1)) (z + x.slots.length + (x.text.length / 20 : Nat)) = gI is z0 := by rw [<- hz, hdr, gI, if_pos hn]
   clear hz
   repeat' (first | refine xs ?_ ?_ <;> intros | (refine wn ?_; intro bx hbx; try simp only [fb] at hbx) | refine wj ?_ | simp -dsimp only [↓bp, bq, br, seval, tbGreatC, hw2, *] | refine wz ?_ | fail)
   all_goals refine ⟨is.length - (i + 1), by omega, i + 1, z + x.slots.length + (x.text.length / 20 : Nat), by omega, rfl, by first | rfl | (simp -dsimp only [↓bp, bq, br, seval, tbGreatC]; done) | (simp -dsimp only [↓bp, bq, br, seval, tbGreatC]; try rfl), by first | rfl | (simp -dsimp only [↓bp, bq, br, seval, tbGreatC]; done) | (simp -dsimp only [↓bp, bq, br, seval, tbGreatC]; try rfl), by omega, by omega, hz3⟩
  ·have hn' := eq_false hn
   have hzI : gI is z0 = z := by rw [<- hz, gI_over _ hn]
   clear hn hz
   repeat' (first | refine xs ?_ ?_ <;> intros | (refine wn ?_; intro bx hbx; try simp only [fb] at hbx) | refine wj ?_ | simp -dsimp only [↓bp, bq, br, seval, tbGreatC, *] | refine wz ?_ | fail)
   refine loop_keep mixed (fun n e => ∃ (i : Nat) (z : Int), i <= es.length /\ n = es.length - i /\ e 5 = .int .i64 i /\ e 3 = .int .i64 z /\ 0 <= z /\ z <= 4000000000 /\ gE (es.drop i) z = gE es (gI is z0)) es.length
    ⟨0, z, by omega, by omega, by first | (simp -dsimp only [↓bp, bq, br, seval, tbGreatC]; done) | (simp -dsimp only [↓bp, bq, br, seval, tbGreatC]; try rfl), by first | (simp -dsimp only [↓bp, bq, br, seval, tbGreatC, h3]; done) | (simp -dsimp only [↓bp, bq, br, seval, tbGreatC, h3]; try rfl), by omega, by omega, by rw [List.drop_zero, hzI]⟩ ?_
   clear hzI
   rintro n v ⟨i, z, hi, rfl, h4, h3, hz0, hz2, hz⟩
   simp -dsimp only [↓bp, bq, br, seval, tbGreatC] at h4
   simp -dsimp only [↓bp, bq, br, seval, tbGreatC] at h3
   by_cases hlt : i < es.length
   ·have hlt' : ((i : Int) < es.length) = True := eq_true (by omega)
    obtain ⟨x, hk⟩ : ∃ x, es[i]? = some x := ⟨_, List.getElem?_eq_getElem hlt⟩
    have hdr := drop_get _ _ _ hk
    by_cases hn : z <= 8000
    ·have hn' := eq_true hn
     have hxl : x.name.length <= 1000000000 := by have h := bulkL_mem (f := Ent.bulk) (List.mem_of_getElem? hk); have h' : x.name.length <= x.bulk := (by unfold Ent.bulk; omega); omega
     have hxl2 := Nat.div_le_self x.name.length 20
     have hw1 : IntKind.i64.wrap ((i : Int) + 1) = ((i + 1 : Nat) : Int) := by rw [wrap_nat (by omega) (by omega)]; rfl
     have hw2 : IntKind.i64.wrap (z + IntKind.i64.wrap ((x.name.length : Int).tdiv 20)) = z + (x.name.length / 20 : Nat) := by
      rw [show (20 : Int) = ((20 : Nat) : Int) from rfl, wquo _ _ (by omega), wadd (by omega) (by omega) (by omega) (by omega)]
     have hz3 : gE (es.drop (i + 1)) (z + (x.name.length / 20 : Nat)) = gE es (gI is z0) := by rw [<- hz, hdr, gE, if_pos hn]
     clear hz
     repeat' (first | refine xs ?_ ?_ <;> intros | (refine wn ?_; intro bx hbx; try simp only [fb] at hbx) | refine wj ?_ | simp -dsimp only [↓bp, bq, br, seval, tbGreatC, hw2, *] | refine wz ?_ | fail)
     all_goals refine ⟨es.length - (i + 1), by omega, i + 1, z + (x.name.length / 20 : Nat), by omega, rfl, by first | rfl | (simp -dsimp only [↓bp, bq, br, seval, tbGreatC]; done) | (simp -dsimp only [↓bp, bq, br, seval, tbGreatC]; try rfl), by first | rfl | (simp -dsimp only [↓bp, bq, br, seval, tbGreatC]; done) | (simp -dsimp only [↓bp, bq, br, seval, tbGreatC]; try rfl), by omega, by omega, hz3⟩
    ·have hn' := eq_false hn
     have hzE : gE es (gI is z0) = z := by rw [<- hz, gE_over _ hn]
     clear hn hz
     repeat' (first | refine xs ?_ ?_ <;> intros | (refine wn ?_; intro bx hbx; try simp only [fb] at hbx) | refine wj ?_ | simp -dsimp only [↓bp, bq, br, seval, tbGreatC, *] | refine wz ?_ | fail)
     refine loop_keep mixed (fun n e => ∃ (i : Nat) (z : Int), i <= cs.length /\ n = cs.length - i /\ e 6 = .int .i64 i /\ e 3 = .int .i64 z /\ 0 <= z /\ z <= 4000000000 /\ gC (cs.drop i) z = gC cs (gE es (gI is z0))) cs.length
      ⟨0, z, by omega, by omega, by first | (simp -dsimp only [↓bp, bq, br, seval, tbGreatC]; done) | (simp -dsimp only [↓bp, bq, br, seval, tbGreatC]; try rfl), by first | (simp -dsimp only [↓bp, bq, br, seval, tbGreatC, h3]; done) | (simp -dsimp only [↓bp, bq, br, seval, tbGreatC, h3]; try rfl), by omega, by omega, by rw [List.drop_zero, hzE]⟩ ?_
     clear hzE
     rintro n v ⟨i, z, hi, rfl, h4, h3, hz0, hz2, hz⟩
     simp -dsimp only [↓bp, bq, br, seval, tbGreatC] at h4
     simp -dsimp only [↓bp, bq, br, seval, tbGreatC] at h3
     by_cases hlt : i < cs.length
     ·have hlt' : ((i : Int) < cs.length) = True := eq_true (by omega)
      obtain ⟨x, hk⟩ : ∃ x, cs[i]? = some x := ⟨_, List.getElem?_eq_getElem hlt⟩
      have hdr := drop_get _ _ _ hk
      by_cases hn : z <= 8000
      ·have hn' := eq_true hn
       have hxb : x.bulk <= 1000000000 := by have := bulk_mem (List.mem_of_getElem? hk); omega
       have ht := termsOf_pure G x 8000 (by omega) (by omega) hxb
       have hto := termsOf_le x 8000
       have hw1 : IntKind.i64.wrap ((i : Int) + 1) = ((i + 1 : Nat) : Int) := by rw [wrap_nat (by omega) (by omega)]; rfl
       have hw2 : IntKind.i64.wrap (z + termsOf x 8000) = z + termsOf x 8000 := wrap_nat (by omega) (by omega)
       by_cases h2 : x.knd = 2
       ·have h2' := eq_true h2
        have hz3 : gC (cs.drop (i + 1)) z = gC cs (gE es (gI is z0)) := by rw [<- hz, hdr, gC, if_pos hn, if_pos h2]
        clear hn hz ht
        repeat' (first | refine xs ?_ ?_ <;> intros | (refine wn ?_; intro bx hbx; try simp only [fb] at hbx) | refine wj ?_ | simp -dsimp only [↓bp, bq, br, seval, tbGreatC, *] | refine wz ?_ | fail)
        all_goals refine ⟨cs.length - (i + 1), by omega, i + 1, z, by omega, rfl, by first | rfl | (simp -dsimp only [↓bp, bq, br, seval, tbGreatC]; done) | (simp -dsimp only [↓bp, bq, br, seval, tbGreatC]; try rfl), by first | rfl | (simp -dsimp only [↓bp, bq, br, seval, tbGreatC]; done) | (simp -dsimp only [↓bp, bq, br, seval, tbGreatC]; try rfl), by omega, by omega, hz3⟩
       ·have h2' := eq_false h2
        have hz3 : gC (cs.drop (i + 1)) (z + termsOf x 8000) = gC cs (gE es (gI is z0)) := by rw [<- hz, hdr, gC, if_pos hn, if_neg h2]
        clear hz
        repeat' (first | refine xs ?_ ?_ <;> intros | (refine wn ?_; intro bx hbx; try simp only [fb] at hbx) | refine wp ht ?_ | refine wj ?_ | simp -dsimp only [↓bp, bq, br, seval, tbGreatC, *] | refine wz ?_ | fail)
        all_goals refine ⟨cs.length - (i + 1), by omega, i + 1, z + termsOf x 8000, by omega, rfl, by first | rfl | (simp -dsimp only [↓bp, bq, br, seval, tbGreatC]; done) | (simp -dsimp only [↓bp, bq, br, seval, tbGreatC]; try rfl), by first | rfl | (simp -dsimp only [↓bp, bq, br, seval, tbGreatC]; done) | (simp -dsimp only [↓bp, bq, br, seval, tbGreatC]; try rfl), by omega, by omega, hz3⟩
      ·have hn' := eq_false hn
       have hzF : gC cs (gE es (gI is z0)) = z := by rw [<- hz, gC_over _ hn]
       rw [hzF]
       clear hn hz hzF
       repeat' (first | refine xs ?_ ?_ <;> intros | (refine wn ?_; intro bx hbx; try simp only [fb] at hbx) | refine wj ?_ | simp -dsimp only [↓bp, bq, br, seval, tbGreatC, *] | refine wz ?_ | fail)
       all_goals rfl
     ·have hlt' : ((i : Int) < cs.length) = False := eq_false (by omega)
      have hzF : gC cs (gE es (gI is z0)) = z := by rw [<- hz, List.drop_of_length_le (by omega), gC]
      rw [hzF]
      clear hz hzF
      repeat' (first | refine xs ?_ ?_ <;> intros | (refine wn ?_; intro bx hbx; try simp only [fb] at hbx) | refine wj ?_ | simp -dsimp only [↓bp, bq, br, seval, tbGreatC, *] | refine wz ?_ | fail)
      all_goals rfl
   ·have hlt' : ((i : Int) < es.length) = False := eq_false (by omega)
    have hzE : gE es (gI is z0) = z := by rw [<- hz, List.drop_of_length_le (by omega), gE]
    clear hz
    repeat' (first | refine xs ?_ ?_ <;> intros | (refine wn ?_; intro bx hbx; try simp only [fb] at hbx) | refine wj ?_ | simp -dsimp only [↓bp, bq, br, seval, tbGreatC, *] | refine wz ?_ | fail)
    refine loop_keep mixed (fun n e => ∃ (i : Nat) (z : Int), i <= cs.length /\ n = cs.length - i /\ e 6 = .int .i64 i /\ e 3 = .int .i64 z /\ 0 <= z /\ z <= 4000000000 /\ gC (cs.drop i) z = gC cs (gE es (gI is z0))) cs.length
     ⟨0, z, by omega, by omega, by first | (simp -dsimp only [↓bp, bq, br, seval, tbGreatC]; done) | (simp -dsimp only [↓bp, bq, br, seval, tbGreatC]; try rfl), by first | (simp -dsimp only [↓bp, bq, br, seval, tbGreatC, h3]; done) | (simp -dsimp only [↓bp, bq, br, seval, tbGreatC, h3]; try rfl), by omega, by omega, by rw [List.drop_zero, hzE]⟩ ?_
    clear hzE
    rintro n v ⟨i, z, hi, rfl, h4, h3, hz0, hz2, hz⟩
    simp -dsimp only [↓bp, bq, br, seval, tbGreatC] at h4
    simp -dsimp only [↓bp, bq, br, seval, tbGreatC] at h3
    by_cases hlt : i < cs.length
    ·have hlt' : ((i : Int) < cs.length) = True := eq_true (by omega)
     obtain ⟨x, hk⟩ : ∃ x, cs[i]? = some x := ⟨_, List.getElem?_eq_getElem hlt⟩
     have hdr := drop_get _ _ _ hk
     by_cases hn : z <= 8000
     ·have hn' := eq_true hn
      have hxb : x.bulk <= 1000000000 := by have := bulk_mem (List.mem_of_getElem? hk); omega
      have ht := termsOf_pure G x 8000 (by omega) (by omega) hxb
      have hto := termsOf_le x 8000
      have hw1 : IntKind.i64.wrap ((i : Int) + 1) = ((i + 1 : Nat) : Int) := by rw [wrap_nat (by omega) (by omega)]; rfl
      have hw2 : IntKind.i64.wrap (z + termsOf x 8000) = z + termsOf x 8000 := wrap_nat (by omega) (by omega)
      by_cases h2 : x.knd = 2
      ·have h2' := eq_true h2
       have hz3 : gC (cs.drop (i + 1)) z = gC cs (gE es (gI is z0)) := by rw [<- hz, hdr, gC, if_pos hn, if_pos h2]
       clear hn hz ht
       repeat' (first | refine xs ?_ ?_ <;> intros | (refine wn ?_; intro bx hbx; try simp only [fb] at hbx) | refine wj ?_ | simp -dsimp only [↓bp, bq, br, seval, tbGreatC, *] | refine wz ?_ | fail)
       all_goals refine ⟨cs.length - (i + 1), by omega, i + 1, z, by omega, rfl, by first | rfl | (simp -dsimp only [↓bp, bq, br, seval, tbGreatC]; done) | (simp -dsimp only [↓bp, bq, br, seval, tbGreatC]; try rfl), by first | rfl | (simp -dsimp only [↓bp, bq, br, seval, tbGreatC]; done) | (simp -dsimp only [↓bp, bq, br, seval, tbGreatC]; try rfl), by omega, by omega, hz3⟩
      ·have h2' := eq_false h2
       have hz3 : gC (cs.drop (i + 1)) (z + termsOf x 8000) = gC cs (gE es (gI is z0)) := by rw [<- hz, hdr, gC, if_pos hn, if_neg h2]
       clear hz
       repeat' (first | refine xs ?_ ?_ <;> intros | (refine wn ?_; intro bx hbx; try simp only [fb] at hbx) | refine wp ht ?_ | refine wj ?_ | simp -dsimp only [↓bp, bq, br, seval, tbGreatC, *] | refine wz ?_ | fail)
       all_goals refine ⟨cs.length - (i + 1), by omega, i + 1, z + termsOf x 8000, by omega, rfl, by first | rfl | (simp -dsimp only [↓bp, bq, br, seval, tbGreatC]; done) | (simp -dsimp only [↓bp, bq, br, seval, tbGreatC]; try rfl), by first | rfl | (simp -dsimp only [↓bp, bq, br, seval, tbGreatC]; done) | (simp -dsimp only [↓bp, bq, br, seval, tbGreatC]; try rfl), by omega, by omega, hz3⟩
     ·have hn' := eq_false hn
      have hzF : gC cs (gE es (gI is z0)) = z := by rw [<- hz, gC_over _ hn]
      rw [hzF]
      clear hn hz hzF
      repeat' (first | refine xs ?_ ?_ <;> intros | (refine wn ?_; intro bx hbx; try simp only [fb] at hbx) | refine wj ?_ | simp -dsimp only [↓bp, bq, br, seval, tbGreatC, *] | refine wz ?_ | fail)
      all_goals rfl
    ·have hlt' : ((i : Int) < cs.length) = False := eq_false (by omega)
     have hzF : gC cs (gE es (gI is z0)) = z := by rw [<- hz, List.drop_of_length_le (by omega), gC]
     rw [hzF]
     clear hz hzF
     repeat' (first | refine xs ?_ ?_ <;> intros | (refine wn ?_; intro bx hbx; try simp only [fb] at hbx) | refine wj ?_ | simp -dsimp only [↓bp, bq, br, seval, tbGreatC, *] | refine wz ?_ | fail)
     all_goals rfl
 ·have hlt' : ((i : Int) < is.length) = False := eq_false (by omega)
  have hzI : gI is z0 = z := by rw [<- hz, List.drop_of_length_le (by omega), gI]
  clear hz
  repeat' (first | refine xs ?_ ?_ <;> intros | (refine wn ?_; intro bx hbx; try simp only [fb] at hbx) | refine wj ?_ | simp -dsimp only [↓bp, bq, br, seval, tbGreatC, *] | refine wz ?_ | fail)
  refine loop_keep mixed (fun n e => ∃ (i : Nat) (z : Int), i <= es.length /\ n = es.length - i /\ e 5 = .int .i64 i /\ e 3 = .int .i64 z /\ 0 <= z /\ z <= 4000000000 /\ gE (es.drop i) z = gE es (gI is z0)) es.length
   ⟨0, z, by omega, by omega, by first | (simp -dsimp only [↓bp, bq, br, seval, tbGreatC]; done) | (simp -dsimp only [↓bp, bq, br, seval, tbGreatC]; try rfl), by first | (simp -dsimp only [↓bp, bq, br, seval, tbGreatC, h3]; done) | (simp -dsimp only [↓bp, bq, br, seval, tbGreatC, h3]; try rfl), by omega, by omega, by rw [List.drop_zero, hzI]⟩ ?_
  clear hzI
  rintro n v ⟨i, z, hi, rfl, h4, h3, hz0, hz2, hz⟩
  simp -dsimp only [↓bp, bq, br, seval, tbGreatC] at h4
  simp -dsimp only [↓bp, bq, br, seval, tbGreatC] at h3
  by_cases hlt : i < es.length
  ·have hlt' : ((i : Int) < es.length) = True := eq_true (by omega)
   obtain ⟨x, hk⟩ : ∃ x, es[i]? = some x := ⟨_, List.getElem?_eq_getElem hlt⟩
   have hdr := drop_get _ _ _ hk
   by_cases hn : z <= 8000
   ·have hn' := eq_true hn
    have hxl : x.name.length <= 1000000000 := by have h := bulkL_mem (f := Ent.bulk) (List.mem_of_getElem? hk); have h' : x.name.length <= x.bulk := (by unfold Ent.bulk; omega); omega
    have hxl2 := Nat.div_le_self x.name.length 20
    have hw1 : IntKind.i64.wrap ((i : Int) + 1) = ((i + 1 : Nat) : Int) := by rw [wrap_nat (by omega) (by omega)]; rfl
    have hw2 : IntKind.i64.wrap (z + IntKind.i64.wrap ((x.name.length : Int).tdiv 20)) = z + (x.name.length / 20 : Nat) := by
     rw [show (20 : Int) = ((20 : Nat) : Int) from rfl, wquo _ _ (by omega), wadd (by omega) (by omega) (by omega) (by omega)]
    have hz3 : gE (es.drop (i + 1)) (z + (x.name.length / 20 : Nat)) = gE es (gI is z0) := by rw [<- hz, hdr, gE, if_pos hn]
    clear hz
    repeat' (first | refine xs ?_ ?_ <;> intros | (refine wn ?_; intro bx hbx; try simp only [fb] at hbx) | refine wj ?_ | simp -dsimp only [↓bp, bq, br, seval, tbGreatC, hw2, *] | refine wz ?_ | fail)
    all_goals refine ⟨es.length - (i + 1), by omega, i + 1, z + (x.name.length / 20 : Nat), by omega, rfl, by first | rfl | (simp -dsimp only [↓bp, bq, br, seval, tbGreatC]; done) | (simp -dsimp only [↓bp, bq, br, seval, tbGreatC]; try rfl), by first | rfl | (simp -dsimp only [↓bp, bq, br, seval, tbGreatC]; done) | (simp -dsimp only [↓bp, bq, br, seval, tbGreatC]; try rfl), by omega, by omega, hz3⟩
   ·have hn' := eq_false hn
    have hzE : gE es (gI is z0) = z := by rw [<- hz, gE_over _ hn]
    clear hn hz
    repeat' (first | refine xs ?_ ?_ <;> intros | (refine wn ?_; intro bx hbx; try simp only [fb] at hbx) | refine wj ?_ | simp -dsimp only [↓bp, bq, br, seval, tbGreatC, *] | refine wz ?_ | fail)
    refine loop_keep mixed (fun n e => ∃ (i : Nat) (z : Int), i <= cs.length /\ n = cs.length - i /\ e 6 = .int .i64 i /\ e 3 = .int .i64 z /\ 0 <= z /\ z <= 4000000000 /\ gC (cs.drop i) z = gC cs (gE es (gI is z0))) cs.length
     ⟨0, z, by omega, by omega, by first | (simp -dsimp only [↓bp, bq, br, seval, tbGreatC]; done) | (simp -dsimp only [↓bp, bq, br, seval, tbGreatC]; try rfl), by first | (simp -dsimp only [↓bp, bq, br, seval, tbGreatC, h3]; done) | (simp -dsimp only [↓bp, bq, br, seval, tbGreatC, h3]; try rfl), by omega, by omega, by rw [List.drop_zero, hzE]⟩ ?_
    clear hzE
    rintro n v ⟨i, z, hi, rfl, h4, h3, hz0, hz2, hz⟩
    simp -dsimp only [↓bp, bq, br, seval, tbGreatC] at h4
    simp -dsimp only [↓bp, bq, br, seval, tbGreatC] at h3
    by_cases hlt : i < cs.length
    ·have hlt' : ((i : Int) < cs.length) = True := eq_true (by omega)
     obtain ⟨x, hk⟩ : ∃ x, cs[i]? = some x := ⟨_, List.getElem?_eq_getElem hlt⟩
     have hdr := drop_get _ _ _ hk
     by_cases hn : z <= 8000
     ·have hn' := eq_true hn
      have hxb : x.bulk <= 1000000000 := by have := bulk_mem (List.mem_of_getElem? hk); omega
      have ht := termsOf_pure G x 8000 (by omega) (by omega) hxb
      have hto := termsOf_le x 8000
      have hw1 : IntKind.i64.wrap ((i : Int) + 1) = ((i + 1 : Nat) : Int) := by rw [wrap_nat (by omega) (by omega)]; rfl
      have hw2 : IntKind.i64.wrap (z + termsOf x 8000) = z + termsOf x 8000 := wrap_nat (by omega) (by omega)
      by_cases h2 : x.knd = 2
      ·have h2' := eq_true h2
       have hz3 : gC (cs.drop (i + 1)) z = gC cs (gE es (gI is z0)) := by rw [<- hz, hdr, gC, if_pos hn, if_pos h2]
       clear hn hz ht
       repeat' (first | refine xs ?_ ?_ <;> intros | (refine wn ?_; intro bx hbx; try simp only [fb] at hbx) | refine wj ?_ | simp -dsimp only [↓bp, bq, br, seval, tbGreatC, *] | refine wz ?_ | fail)
       all_goals refine ⟨cs.length - (i + 1), by omega, i + 1, z, by omega, rfl, by first | rfl | (simp -dsimp only [↓bp, bq, br, seval, tbGreatC]; done) | (simp -dsimp only [↓bp, bq, br, seval, tbGreatC]; try rfl), by first | rfl | (simp -dsimp only [↓bp, bq, br, seval, tbGreatC]; done) | (simp -dsimp only [↓bp, bq, br, seval, tbGreatC]; try rfl), by omega, by omega, hz3⟩
      ·have h2' := eq_false h2
       have hz3 : gC (cs.drop (i + 1)) (z + termsOf x 8000) = gC cs (gE es (gI is z0)) := by rw [<- hz, hdr, gC, if_pos hn, if_neg h2]
       clear hz
       repeat' (first | refine xs ?_ ?_ <;> intros | (refine wn ?_; intro bx hbx; try simp only [fb] at hbx) | refine wp ht ?_ | refine wj ?_ | simp -dsimp only [↓bp, bq, br, seval, tbGreatC, *] | refine wz ?_ | fail)
       all_goals refine ⟨cs.length - (i + 1), by omega, i + 1, z + termsOf x 8000, by omega, rfl, by first | rfl | (simp -dsimp only [↓bp, bq, br, seval, tbGreatC]; done) | (simp -dsimp only [↓bp, bq, br, seval, tbGreatC]; try rfl), by first | rfl | (simp -dsimp only [↓bp, bq, br, seval, tbGreatC]; done) | (simp -dsimp only [↓bp, bq, br, seval, tbGreatC]; try rfl), by omega, by omega, hz3⟩
     ·have hn' := eq_false hn
      have hzF : gC cs (gE es (gI is z0)) = z := by rw [<- hz, gC_over _ hn]
      rw [hzF]
      clear hn hz hzF
      repeat' (first | refine xs ?_ ?_ <;> intros | (refine wn ?_; intro bx hbx; try simp only [fb] at hbx) | refine wj ?_ | simp -dsimp only [↓bp, bq, br, seval, tbGreatC, *] | refine wz ?_ | fail)
      all_goals rfl
    ·have hlt' : ((i : Int) < cs.length) = False := eq_false (by omega)
     have hzF : gC cs (gE es (gI is z0)) = z := by rw [<- hz, List.drop_of_length_le (by omega), gC]
     rw [hzF]
     clear hz hzF
     repeat' (first | refine xs ?_ ?_ <;> intros | (refine wn ?_; intro bx hbx; try simp only [fb] at hbx) | refine wj ?_ | simp -dsimp only [↓bp, bq, br, seval, tbGreatC, *] | refine wz ?_ | fail)
     all_goals rfl
  ·have hlt' : ((i : Int) < es.length) = False := eq_false (by omega)
   have hzE : gE es (gI is z0) = z := by rw [<- hz, List.drop_of_length_le (by omega), gE]
   clear hz
   repeat' (first | refine xs ?_ ?_ <;> intros | (refine wn ?_; intro bx hbx; try simp only [fb] at hbx) | refine wj ?_ | simp -dsimp only [↓bp, bq, br, seval, tbGreatC, *] | refine wz ?_ | fail)
   refine loop_keep mixed (fun n e => ∃ (i : Nat) (z : Int), i <= cs.length /\ n = cs.length - i /\ e 6 = .int .i64 i /\ e 3 = .int .i64 z /\ 0 <= z /\ z <= 4000000000 /\ gC (cs.drop i) z = gC cs (gE es (gI is z0))) cs.length
    ⟨0, z, by omega, by omega, by first | (simp -dsimp only [↓bp, bq, br, seval, tbGreatC]; done) | (simp -dsimp only [↓bp, bq, br, seval, tbGreatC]; try rfl), by first | (simp -dsimp only [↓bp, bq, br, seval, tbGreatC, h3]; done) | (simp -dsimp only [↓bp, bq, br, seval, tbGreatC, h3]; try rfl), by omega, by omega, by rw [List.drop_zero, hzE]⟩ ?_
   clear hzE
   rintro n v ⟨i, z, hi, rfl, h4, h3, hz0, hz2, hz⟩
   simp -dsimp only [↓bp, bq, br, seval, tbGreatC] at h4
   simp -dsimp only [↓bp, bq, br, seval, tbGreatC] at h3
   by_cases hlt : i < cs.length
   ·have hlt' : ((i : Int) < cs.length) = True := eq_true (by omega)
    obtain ⟨x, hk⟩ : ∃ x, cs[i]? = some x := ⟨_, List.getElem?_eq_getElem hlt⟩
    have hdr := drop_get _ _ _ hk
    by_cases hn : z <= 8000
    ·have hn' := eq_true hn
     have hxb : x.bulk <= 1000000000 := by have := bulk_mem (List.mem_of_getElem? hk); omega
     have ht := termsOf_pure G x 8000 (by omega) (by omega) hxb
     have hto := termsOf_le x 8000
     have hw1 : IntKind.i64.wrap ((i : Int) + 1) = ((i + 1 : Nat) : Int) := by rw [wrap_nat (by omega) (by omega)]; rfl
     have hw2 : IntKind.i64.wrap (z + termsOf x 8000) = z + termsOf x 8000 := wrap_nat (by omega) (by omega)
     by_cases h2 : x.knd = 2
     ·have h2' := eq_true h2
      have hz3 : gC (cs.drop (i + 1)) z = gC cs (gE es (gI is z0)) := by rw [<- hz, hdr, gC, if_pos hn, if_pos h2]
      clear hn hz ht
      repeat' (first | refine xs ?_ ?_ <;> intros | (refine wn ?_; intro bx hbx; try simp only [fb] at hbx) | refine wj ?_ | simp -dsimp only [↓bp, bq, br, seval, tbGreatC, *] | refine wz ?_ | fail)
      all_goals refine ⟨cs.length - (i + 1), by omega, i + 1, z, by omega, rfl, by first | rfl | (simp -dsimp only [↓bp, bq, br, seval, tbGreatC]; done) | (simp -dsimp only [↓bp, bq, br, seval, tbGreatC]; try rfl), by first | rfl | (simp -dsimp only [↓bp, bq, br, seval, tbGreatC]; done) | (simp -dsimp only [↓bp, bq, br, seval, tbGreatC]; try rfl), by omega, by omega, hz3⟩
     ·have h2' := eq_false h2
      have hz3 : gC (cs.drop (i + 1)) (z + termsOf x 8000) = gC cs (gE es (gI is z0)) := by rw [<- hz, hdr, gC, if_pos hn, if_neg h2]
      clear hz
      repeat' (first | refine xs ?_ ?_ <;> intros | (refine wn ?_; intro bx hbx; try simp only [fb] at hbx) | refine wp ht ?_ | refine wj ?_ | simp -dsimp only [↓bp, bq, br, seval, tbGreatC, *] | refine wz ?_ | fail)
      all_goals refine ⟨cs.length - (i + 1), by omega, i + 1, z + termsOf x 8000, by omega, rfl, by first | rfl | (simp -dsimp only [↓bp, bq, br, seval, tbGreatC]; done) | (simp -dsimp only [↓bp, bq, br, seval, tbGreatC]; try rfl), by first | rfl | (simp -dsimp only [↓bp, bq, br, seval, tbGreatC]; done) | (simp -dsimp only [↓bp, bq, br, seval, tbGreatC]; try rfl), by omega, by omega, hz3⟩
    ·have hn' := eq_false hn
     have hzF : gC cs (gE es (gI is z0)) = z := by rw [<- hz, gC_over _ hn]
     rw [hzF]
     clear hn hz hzF
     repeat' (first | refine xs ?_ ?_ <;> intros | (refine wn ?_; intro bx hbx; try simp only [fb] at hbx) | refine wj ?_ | simp -dsimp only [↓bp, bq, br, seval, tbGreatC, *] | refine wz ?_ | fail)
     all_goals rfl
   ·have hlt' : ((i : Int) < cs.length) = False := eq_false (by omega)
    have hzF : gC cs (gE es (gI is z0)) = z := by rw [<- hz, List.drop_of_length_le (by omega), gC]
    rw [hzF]
    clear hz hzF
    repeat' (first | refine xs ?_ ?_ <;> intros | (refine wn ?_; intro bx hbx; try simp only [fb] at hbx) | refine wj ?_ | simp -dsimp only [↓bp, bq, br, seval, tbGreatC, *] | refine wz ?_ | fail)
    all_goals rfl
end
section
variable {G : Nat -> AV}
theorem gC_le : ∀ (l : List Term) (n : Int), gC l n <= 8000 -> n <= 8000
 | [], n, h => h
 | x :: l, n, h => by
  unfold gC at h
  split at h
  ·assumption
  ·exact h
theorem gE_le : ∀ (l : List Ent) (n : Int), gE l n <= 8000 -> n <= 8000
 | [], n, h => h
 | x :: l, n, h => by
  unfold gE at h
  split at h
  ·assumption
  ·exact h
theorem gI_le : ∀ (l : List Ins) (n : Int), gI l n <= 8000 -> n <= 8000
 | [], n, h => h
 | x :: l, n, h => by
  unfold gI at h
  split at h
  ·assumption
  ·exact h
theorem gI_mem : ∀ (l : List Ins) (n : Int), 0 <= n -> gI l n <= 8000 -> ∀ x, x ∈ l -> x.slots.length <= 8000 /\ x.text.length <= 160019
 | [], n, _, _ => fun x hx => by cases hx
 | y :: l, n, h0, h => fun x hx => by
  unfold gI at h
  split at h
  ·rename_i hn
   have h1 := gI_le _ _ h
   rcases List.mem_cons.1 hx with rfl | hx
   ·omega
   ·exact gI_mem l _ (by omega) h x hx
  ·omega
theorem great_mem {c : Cod} (h : greatC c = false) : ∀ x, x ∈ c.instrs -> x.bulk <= 200000 := fun x hx => by
 unfold greatC at h
 have h1 : greatN c <= 8000 := by have := of_decide_eq_false h; omega
 have h2 := gI_mem _ _ (by omega) (gE_le _ _ (gC_le _ _ h1)) x hx
 unfold Ins.bulk
 omega
theorem slotsX_len : ∀ (l : List Int), (∀ n, n ∈ l -> i64R n) -> (slotsX l).length <= 40 * l.length + 1
 | [], _ => by simp [slotsX]
 | n :: l, h => by
  have h1 := slotsX_len l fun m hm => h m (List.mem_cons_of_mem _ hm)
  have h2 := h n List.mem_cons_self
  unfold i64R at h2
  have h3 := itoa_len4 n (by omega) (by omega)
  simp only [slotsX, List.length_cons, List.length_append]
  omega
theorem slotsT_len (l : List Int) (h : ∀ n, n ∈ l -> i64R n) : (slotsT l).length <= 40 * l.length + 3 := by
 cases l with
 | nil => simp [slotsT]
 | cons n l =>
  have h1 := slotsX_len l fun m hm => h m (List.mem_cons_of_mem _ hm)
  have h2 := h n List.mem_cons_self
  unfold i64R at h2
  have h3 := itoa_len4 n (by omega) (by omega)
  simp only [slotsT, List.length_cons, List.length_append]
  omega
theorem textA_len (s : List UInt8) : (text (atomTm s)).length <= 400 * (s.length + 10) := by
 unfold text
 split
 ·rename_i h
  have := said_len _ h
  have hb : (atomTm s).bulk <= s.length + 10 := by simp only [atomTm, Term.bulk, bulks, List.length_nil]; omega
  omega
 ·simp
theorem nI_len (c : UInt8) (n : Int) (h : i64R n) : (nI c n).length <= 40 := by
 unfold i64R at h
 have h3 := itoa_len4 n (by omega) (by omega)
 simp only [nI, List.length_cons]
 omega
theorem pieces_len (i : Ins) (hr : i.Rng) (hi : i.bulk <= 1000000) : ∀ f, (pieceT i f).length <= 100000000000 := fun f => by
 have ha := nI_len 115 i.a hr.a
 have hb := nI_len 115 i.b hr.b
 have hc := nI_len 115 i.c hr.c
 have hn := nI_len 35 i.n hr.n
 have hl := nI_len 64 i.l hr.l
 have hs := slotsT_len i.slots hr.slots
 have ht := textA_len i.text
 unfold Ins.bulk at hi
 unfold pieceT
 repeat' split
 all_goals first | omega | (simp only [List.length_cons, List.length_nil]; omega)
end
end Go.Proofs.YtjmdaeabllkgnaaGreatDoor
