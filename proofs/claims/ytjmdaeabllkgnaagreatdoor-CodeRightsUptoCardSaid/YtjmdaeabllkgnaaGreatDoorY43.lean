/- Code: the document's Next and Text: walked. -/
import Derived.Test.YtjmdaeabllkgnaaGreatDoorY41
import Derived.Test.YtjmdaeabllkgnaaGreatDoorY26
import Derived.Test.YtjmdaeabllkgnaaGreatDoorY31
set_option linter.unusedVariables false
set_option linter.unusedSimpArgs false
set_option maxRecDepth 20000
set_option linter.defProp false
namespace Go.Proofs.YtjmdaeabllkgnaaGreatDoor
open Go Go.Av
def tbRCodB := And.intro (And.intro (And.intro (And.intro (And.intro @tf3 @tf4) (And.intro @tf5 @tf9)) (And.intro (And.intro @tf124 @tf37) (And.intro @tf39 @tf23))) (And.intro (And.intro (And.intro @tf30 @tf53) (And.intro @tf22 @tf26)) (And.intro (And.intro @tf24 @tf58) (And.intro @tf55 (And.intro @tf56 @tf169))))) (And.intro (And.intro (And.intro (And.intro @isv_rowOf @flat_rowOf) (And.intro @len_rowOf @ix_rowOf)) (And.intro (And.intro @isv_encs @flat_encs) (And.intro @len_encs (And.intro @Ins.flat_enc @Ins.isv_enc)))) (And.intro (And.intro (And.intro @Ins.fold_enc @Ent.flat_enc) (And.intro @Ent.isv_enc @Ent.fold_enc)) (And.intro (And.intro @Cod.flat_enc @Cod.isv_enc) (And.intro @Cod.fold_enc (And.intro @ares_tmpc @ares_cellc)))))
variable (G : Nat -> AV)
structure Hd (p : Prop) : Prop where
 out : p
theorem le_intF (l : List Int) : Le (.sl .full (l.map intA) []) (rowOf intA l) := Le.gh
set_option maxHeartbeats 8000000 in
theorem rnext_pure (c : Cod) (hc : c.bulk <= 1000000000) (pos : Int) (hpos : i64R pos) : Pure Tryz.prog G 15 [c.enc, .int .i64 pos] (rowOf intA (nexts c pos)) := by
 obtain ⟨es, is, cs⟩ := c
 have hli : is.length <= 1000000000 := by have := len_bulkL Ins.bulk_pos is; unfold Cod.bulk at hc; simp only at hc; omega
 have hce : (⟨es, is, cs⟩ : Cod).enc = .agg [rowOf Ent.enc es, rowOf Ins.enc is, encs cs] := rfl
 rw [hce]
 clear hce hc
 refine Pure.of_le fun σ => ?_
 by_cases h0 : pos < 0
 ·have hv : nexts ⟨es, is, cs⟩ pos = [] := by unfold nexts; rw [if_neg (by omega)]
  rw [hv]
  have h0' := eq_true h0
  clear hv hli h0 hpos
  refine Tri.of_awp mixed Tryz.func15 rfl (by kernel_rfl) (by kernel_rfl) (by simp [Tryz.ntmps15]) Tryz.results15 ?_
  repeat' (first | refine xs ?_ ?_ <;> intros | (refine wn ?_; intro bx hbx; try simp only [fb] at hbx) | refine wj ?_ | simp -dsimp only [↓bp, bq, br, seval, tbRCodB, *] | refine wz ?_ | fail)
  all_goals exact finish_le Le.nil (by repeat' first | exact lr _ | assumption | refine ls ?_ ?_ | refine lt ?_ ?_ | simp only [*]; done | simp only [fb, *, not_false_eq_true, and_self]; done | exact lf ‹_› (by simp only [*]))
 have h0' := eq_false h0
 obtain ⟨p, hp⟩ := Int.eq_ofNat_of_zero_le (a := pos) (by omega)
 subst hp
 by_cases h1 : p < is.length
 case neg =>
  have h1' : ((is.length : Int) <= p) = True := eq_true (by omega)
  have hv : nexts ⟨es, is, cs⟩ p = [] := by
   unfold nexts; rw [if_pos (by omega)]; simp only [Int.toNat_natCast, List.getElem?_eq_none (Nat.le_of_not_lt h1)]
  rw [hv]
  clear hv hli h0 h1 hpos
  refine Tri.of_awp mixed Tryz.func15 rfl (by kernel_rfl) (by kernel_rfl) (by simp [Tryz.ntmps15]) Tryz.results15 ?_
  repeat' (first | refine xs ?_ ?_ <;> intros | (refine wn ?_; intro bx hbx; try simp only [fb] at hbx) | refine wj ?_ | simp -dsimp only [↓bp, bq, br, seval, tbRCodB, *] | refine wz ?_ | fail)
  all_goals exact finish_le Le.nil (by repeat' first | exact lr _ | assumption | refine ls ?_ ?_ | refine lt ?_ ?_ | simp only [*]; done | simp only [fb, *, not_false_eq_true, and_self]; done | exact lf ‹_› (by simp only [*]))
 have h1' : ((is.length : Int) <= p) = False := eq_false (by omega)
 obtain ⟨x, hk⟩ : ∃ x, is[p]? = some x := ⟨_, List.getElem?_eq_getElem h1⟩
 have hv : nexts ⟨es, is, cs⟩ p = rNexts x p := by
  unfold nexts; rw [if_pos (by omega)]; simp only [Int.toNat_natCast, hk]; exact nexts_eq x p
 rw [hv]
 have hwp : IntKind.i64.wrap ((p : Int) + 1) = (p : Int) + 1 := wrap_nat (by omega) (by omega)
 have hf := rfields_pure G x.op
 have h76 := rh_pure G x.op 76
 have hop : ∀ k : UInt8, (x.opI = (k.toNat : Int)) = (x.op = k) := fun k => propext ⟨fun h => UInt8.toNat_inj.1 (by unfold Ins.opI at h; omega), fun h => by unfold Ins.opI; rw [h]⟩
 have o7 : (x.opI = 7) = (x.op = 7) := hop 7
 have o9 : (x.opI = 9) = (x.op = 9) := hop 9
 have o11 : (x.opI = 11) = (x.op = 11) := hop 11
 have o28 : (x.opI = 28) = (x.op = 28) := hop 28
 have o29 : (x.opI = 29) = (x.op = 29) := hop 29
 have o12 : (x.opI = 12) = (x.op = 12) := hop 12
 have o24 : (x.opI = 24) = (x.op = 24) := hop 24
 have hf : Pure Tryz.prog G 52 [.int .u8 x.opI] (.tup [.str (rW x.op), .str (rF x.op)]) := hf
 clear hop hv
 unfold rNexts
 by_cases hA : x.op = 7 \/ x.op = 9 \/ x.op = 11 \/ x.op = 28 \/ x.op = 29
 ·rw [if_pos hA]
  generalize rW x.op = W at *
  generalize rF x.op = F at *
  clear h0 h1 hli hpos h76
  rcases hA with h | h | h | h | h
  all_goals
   (rw [h] at o7 o9 o11 o28 o29 o12 o24)
   (simp only [eq_self, show ((7 : UInt8) = 9) = False from by decide, show ((7 : UInt8) = 11) = False from by decide, show ((7 : UInt8) = 28) = False from by decide, show ((7 : UInt8) = 29) = False from by decide, show ((9 : UInt8) = 7) = False from by decide, show ((11 : UInt8) = 7) = False from by decide, show ((11 : UInt8) = 9) = False from by decide, show ((28 : UInt8) = 7) = False from by decide, show ((28 : UInt8) = 9) = False from by decide, show ((28 : UInt8) = 11) = False from by decide, show ((29 : UInt8) = 7) = False from by decide, show ((29 : UInt8) = 9) = False from by decide, show ((29 : UInt8) = 11) = False from by decide, show ((29 : UInt8) = 28) = False from by decide, show ((9 : UInt8) = 11) = False from by decide, show ((9 : UInt8) = 28) = False from by decide, show ((9 : UInt8) = 29) = False from by decide, show ((11 : UInt8) = 28) = False from by decide, show ((11 : UInt8) = 29) = False from by decide, show ((28 : UInt8) = 29) = False from by decide] at o7 o9 o11 o28 o29)
   clear o12 o24 h
   refine Tri.of_awp mixed Tryz.func15 rfl (by kernel_rfl) (by kernel_rfl) (by simp [Tryz.ntmps15]) Tryz.results15 ?_
   repeat' (first | refine xs ?_ ?_ <;> intros | (refine wn ?_; intro bx hbx; try simp only [fb] at hbx) | refine wp hf ?_ | refine wj ?_ | simp -dsimp only [↓bp, bq, br, seval, tbRCodB, *] | refine wz ?_ | fail)
   all_goals exact finish_le Le.nil (by repeat' first | exact lr _ | assumption | refine ls ?_ ?_ | refine lt ?_ ?_ | simp only [*]; done | simp only [fb, *, not_false_eq_true, and_self]; done | exact lf ‹_› (by simp only [*]))
 rw [if_neg hA]
 have n7 : (x.op = 7) = False := eq_false (fun h => hA (.inl h))
 have n9 : (x.op = 9) = False := eq_false (fun h => hA (.inr (.inl h)))
 have n11 : (x.op = 11) = False := eq_false (fun h => hA (.inr (.inr (.inl h))))
 have n28 : (x.op = 28) = False := eq_false (fun h => hA (.inr (.inr (.inr (.inl h)))))
 have n29 : (x.op = 29) = False := eq_false (fun h => hA (.inr (.inr (.inr (.inr h)))))
 rw [n7] at o7
 rw [n9] at o9
 rw [n11] at o11
 rw [n28] at o28
 rw [n29] at o29
 clear n7 n9 n11 n28 n29 hA
 by_cases hB : x.op = 12 \/ x.op = 24
 ·rw [if_pos hB]
  generalize rW x.op = W at *
  generalize rF x.op = F at *
  clear h0 h1 hli hpos h76
  rcases hB with h | h
  all_goals
   (rw [h] at o12 o24)
   (simp only [eq_self, show ((24 : UInt8) = 12) = False from by decide, show ((12 : UInt8) = 24) = False from by decide] at o12 o24)
   clear h
   refine Tri.of_awp mixed Tryz.func15 rfl (by kernel_rfl) (by kernel_rfl) (by simp [Tryz.ntmps15]) Tryz.results15 ?_
   repeat' (first | refine xs ?_ ?_ <;> intros | (refine wn ?_; intro bx hbx; try simp only [fb] at hbx) | refine wp hf ?_ | refine wj ?_ | simp -dsimp only [↓bp, bq, br, seval, tbRCodB, *] | refine wz ?_ | fail)
   all_goals exact finish_le (le_intF [x.l]) (by repeat' first | exact lr _ | assumption | refine ls ?_ ?_ | refine lt ?_ ?_ | simp only [*]; done | simp only [fb, *, not_false_eq_true, and_self]; done | exact lf ‹_› (by simp only [*]))
 rw [if_neg hB]
 have n12 : (x.op = 12) = False := eq_false (fun h => hB (.inl h))
 have n24 : (x.op = 24) = False := eq_false (fun h => hB (.inr h))
 rw [n12] at o12
 rw [n24] at o24
 clear n12 n24 hB
 by_cases hW : rW x.op = []
 ·rw [if_pos hW]
  have hW' := eq_true hW
  generalize rW x.op = W at *
  generalize rF x.op = F at *
  clear h0 h1 hli hpos h76 hW
  refine Tri.of_awp mixed Tryz.func15 rfl (by kernel_rfl) (by kernel_rfl) (by simp [Tryz.ntmps15]) Tryz.results15 ?_
  repeat' (first | refine xs ?_ ?_ <;> intros | (refine wn ?_; intro bx hbx; try simp only [fb] at hbx) | refine wp hf ?_ | refine wj ?_ | simp -dsimp only [↓bp, bq, br, seval, tbRCodB, *] | refine wz ?_ | fail)
  all_goals exact finish_le Le.nil (by repeat' first | exact lr _ | assumption | refine ls ?_ ?_ | refine lt ?_ ?_ | simp only [*]; done | simp only [fb, *, not_false_eq_true, and_self]; done | exact lf ‹_› (by simp only [*]))
 rw [if_neg hW]
 have hW' := eq_false hW
 generalize rW x.op = W at *
 generalize rF x.op = F at *
 cases hb : rH x.op 76 with
 | false =>
  rw [hb] at h76
  rw [if_pos (.inl rfl)]
  clear h0 h1 hli hpos hW hb
  refine Tri.of_awp mixed Tryz.func15 rfl (by kernel_rfl) (by kernel_rfl) (by simp [Tryz.ntmps15]) Tryz.results15 ?_
  repeat' (first | refine xs ?_ ?_ <;> intros | (refine wn ?_; intro bx hbx; try simp only [fb] at hbx) | refine wp hf ?_ | refine wp h76 ?_ | refine wj ?_ | simp -dsimp only [↓bp, bq, br, seval, tbRCodB, *] | refine wz ?_ | fail)
  all_goals exact finish_le (le_intF [(p : Int) + 1]) (by repeat' first | exact lr _ | assumption | refine ls ?_ ?_ | refine lt ?_ ?_ | simp only [*]; done | simp only [fb, *, not_false_eq_true, and_self]; done | exact lf ‹_› (by simp only [*]))
 | true =>
  rw [hb] at h76
  by_cases hq : x.l = (p : Int) + 1
  ·rw [if_pos (.inr hq)]
   have hq' := eq_true hq
   clear h0 h1 hli hpos hW hb hq
   refine Tri.of_awp mixed Tryz.func15 rfl (by kernel_rfl) (by kernel_rfl) (by simp [Tryz.ntmps15]) Tryz.results15 ?_
   repeat' (first | refine xs ?_ ?_ <;> intros | (refine wn ?_; intro bx hbx; try simp only [fb] at hbx) | refine wp hf ?_ | refine wp h76 ?_ | refine wj ?_ | simp -dsimp only [↓bp, bq, br, seval, tbRCodB, *] | refine wz ?_ | fail)
   all_goals exact finish_le (le_intF [(p : Int) + 1]) (by repeat' first | exact lr _ | assumption | refine ls ?_ ?_ | refine lt ?_ ?_ | simp only [*]; done | simp only [fb, *, not_false_eq_true, and_self]; done | exact lf ‹_› (by simp only [*]))
  ·rw [if_neg (by simp [hq])]
   have hq' := eq_false hq
   by_cases hl : x.l < (p : Int) + 1
   ·rw [if_pos hl]
    have hl' := eq_true hl
    clear h0 h1 hli hpos hW hb hq hl
    refine Tri.of_awp mixed Tryz.func15 rfl (by kernel_rfl) (by kernel_rfl) (by simp [Tryz.ntmps15]) Tryz.results15 ?_
    repeat' (first | refine xs ?_ ?_ <;> intros | (refine wn ?_; intro bx hbx; try simp only [fb] at hbx) | refine wp hf ?_ | refine wp h76 ?_ | refine wj ?_ | simp -dsimp only [↓bp, bq, br, seval, tbRCodB, *] | refine wz ?_ | fail)
    all_goals exact finish_le (le_intF [x.l, (p : Int) + 1]) (by repeat' first | exact lr _ | assumption | refine ls ?_ ?_ | refine lt ?_ ?_ | simp only [*]; done | simp only [fb, *, not_false_eq_true, and_self]; done | exact lf ‹_› (by simp only [*]))
   ·rw [if_neg hl]
    have hl' := eq_false hl
    clear h0 h1 hli hpos hW hb hq hl
    refine Tri.of_awp mixed Tryz.func15 rfl (by kernel_rfl) (by kernel_rfl) (by simp [Tryz.ntmps15]) Tryz.results15 ?_
    repeat' (first | refine xs ?_ ?_ <;> intros | (refine wn ?_; intro bx hbx; try simp only [fb] at hbx) | refine wp hf ?_ | refine wp h76 ?_ | refine wj ?_ | simp -dsimp only [↓bp, bq, br, seval, tbRCodB, *] | refine wz ?_ | fail)
    all_goals exact finish_le (le_intF [(p : Int) + 1, x.l]) (by repeat' first | exact lr _ | assumption | refine ls ?_ ?_ | refine lt ?_ ?_ | simp only [*]; done | simp only [fb, *, not_false_eq_true, and_self]; done | exact lf ‹_› (by simp only [*]))
end Go.Proofs.YtjmdaeabllkgnaaGreatDoor
