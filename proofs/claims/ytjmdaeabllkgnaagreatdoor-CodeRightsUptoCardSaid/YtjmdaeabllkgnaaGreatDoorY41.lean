/- Code: the document's fields, what is read and written, where it goes on: walked. -/
import Derived.Test.YtjmdaeabllkgnaaGreatDoorY24
import Derived.Test.YtjmdaeabllkgnaaGreatDoorY40
import Derived.Test.YtjmdaeabllkgnaaGreatDoorY23
import Derived.Test.YtjmdaeabllkgnaaGreatDoorY31
set_option linter.unusedVariables false
set_option linter.unusedSimpArgs false
set_option maxRecDepth 20000
set_option linter.defProp false
namespace Go.Proofs.YtjmdaeabllkgnaaGreatDoor
open Go Go.Av
section
def tbRCodA := And.intro (And.intro (And.intro (And.intro @tf3 (And.intro @tf4 @tf5)) (And.intro (And.intro @tf9 @tf124) (And.intro @tf37 @tf39))) (And.intro (And.intro (And.intro @tf23 @tf30) (And.intro @tf53 @tf22)) (And.intro (And.intro @tf26 @tf24) (And.intro @isv_rowOf @flat_rowOf)))) (And.intro (And.intro (And.intro (And.intro @len_rowOf @ix_rowOf) (And.intro @isv_encs @flat_encs)) (And.intro (And.intro @len_encs @Ins.flat_enc) (And.intro @Ins.isv_enc @Ins.fold_enc))) (And.intro (And.intro (And.intro @Ent.flat_enc @Ent.isv_enc) (And.intro @Ent.fold_enc @Cod.flat_enc)) (And.intro (And.intro @Cod.isv_enc @Cod.fold_enc) (And.intro @ares_tmpc @ares_cellc))))
variable (G : Nat -> AV)
theorem rwords_at {op : UInt8} (h : 1 <= op.toNat) (h2 : op.toNat <= 29) : rWords[op.toNat - 1]? = some (rW op) /\ rHas[op.toNat - 1]? = some (rF op) := by
 unfold rW rF
 rw [if_neg (by omega), if_neg (by omega), List.getD_eq_getElem?_getD, List.getD_eq_getElem?_getD]
 have l1 : rWords.length = 29 := rfl
 have l2 : rHas.length = 29 := rfl
 rw [List.getElem?_eq_getElem (by omega), List.getElem?_eq_getElem (by omega)]
 exact ⟨rfl, rfl⟩
set_option maxHeartbeats 2000000 in
theorem rfields_pure (op : UInt8) : Pure Tryz.prog G 52 [.int .u8 op.toNat] (.tup [.str (rW op), .str (rF op)]) := by
 have hlt := op.toNat_lt
 have hW : AV.sl .full [.str [99, 111, 110, 115, 116], .str [109, 111, 118, 101], .str [116, 117, 112, 108, 101], .str [99, 111, 110, 115], .str [102, 117, 110], .str [99, 97, 108, 108], .str [116, 97, 105, 108], .str [97, 112, 112, 108, 121], .str [116, 97, 105, 108, 102, 117, 110], .str [98, 105, 102], .str [114, 101, 116, 117, 114, 110], .str [106, 117, 109, 112], .str [105, 115, 116, 117, 112, 108, 101], .str [105, 115, 99, 111, 110, 115], .str [105, 115, 99, 111, 110, 115, 116], .str [105, 115, 115, 97, 109, 101], .str [101, 108, 101, 109], .str [104, 101, 97, 100], .str [114, 101, 115, 116], .str [103, 117, 97, 114, 100], .str [114, 101, 99, 101, 105, 118, 101], .str [110, 101, 120, 116], .str [116, 97, 107, 101], .str [115, 107, 105, 112], .str [116, 105, 109, 101], .str [116, 114, 121], .str [117, 110, 116, 114, 121], .str [102, 97, 105, 108], .str [114, 97, 105, 115, 101]] [] = .sl .full (rWords.map AV.str) [] := rfl
 have hH : AV.sl .full [.str [65, 78], .str [65, 66], .str [65, 83], .str [65, 66, 67], .str [65, 78, 83], .str [65, 78, 83], .str [78, 83], .str [65, 66, 83], .str [66, 83], .str [65, 84, 83], .str [66], .str [76], .str [66, 78, 76], .str [66, 76], .str [66, 78, 76], .str [66, 67, 76], .str [65, 66, 78], .str [65, 66], .str [65, 66], .str [65, 84, 83, 76], .str [78], .str [65, 76], .str [], .str [76], .str [66], .str [65, 76], .str [], .str [66], .str [66]] [] = .sl .full (rHas.map AV.str) [] := rfl
 have l1 : rWords.length = 29 := rfl
 have l2 : rHas.length = 29 := rfl
 have hw : IntKind.i64.wrap (op.toNat : Int) = op.toNat := wrap_nat (by omega) (by omega)
 by_cases h1 : op.toNat < 1
 ·have h1' : ((op.toNat : Int) < 1) = True := eq_true (by omega)
  have e1 : rW op = [] := by unfold rW; rw [if_pos (.inl h1)]
  have e2 : rF op = [] := by unfold rF; rw [if_pos (.inl h1)]
  rw [e1, e2]
  clear e1 e2 h1 hlt
  generalize rWords = A at *
  generalize rHas = B at *
  intro σ
  refine Tri.of_awp mixed Tryz.func52 rfl (by kernel_rfl) (by kernel_rfl) (by simp [Tryz.ntmps52]) Tryz.results52 ?_
  repeat' (first | refine xs ?_ ?_ <;> intros | (refine wn ?_; intro bx hbx; try simp only [fb] at hbx) | refine wj ?_ | simp -dsimp only [↓bp, bq, br, seval, tbRCodA, *] | refine wz ?_ | fail)
  all_goals rfl
 by_cases h2 : 29 < op.toNat
 ·have h1' : ((op.toNat : Int) < 1) = False := eq_false (by omega)
  have h2' : ((29 : Int) < (op.toNat : Int)) = True := eq_true (by omega)
  have e1 : rW op = [] := by unfold rW; rw [if_pos (.inr h2)]
  have e2 : rF op = [] := by unfold rF; rw [if_pos (.inr h2)]
  rw [e1, e2]
  clear e1 e2 h1 h2 hlt
  generalize rWords = A at *
  generalize rHas = B at *
  intro σ
  refine Tri.of_awp mixed Tryz.func52 rfl (by kernel_rfl) (by kernel_rfl) (by simp [Tryz.ntmps52]) Tryz.results52 ?_
  repeat' (first | refine xs ?_ ?_ <;> intros | (refine wn ?_; intro bx hbx; try simp only [fb] at hbx) | refine wj ?_ | simp -dsimp only [↓bp, bq, br, seval, tbRCodA, *] | refine wz ?_ | fail)
  all_goals rfl
 ·have h1' : ((op.toNat : Int) < 1) = False := eq_false (by omega)
  have h2' : ((29 : Int) < (op.toNat : Int)) = False := eq_false (by omega)
  obtain ⟨a1, a2⟩ := rwords_at (op := op) (by omega) (by omega)
  have hk : IntKind.u8.wrap ((op.toNat : Int) - 1) = ((op.toNat - 1 : Nat) : Int) := by rw [IntKind.wrap_u8]; omega
  generalize op.toNat - 1 = k at *
  generalize rW op = rw at *
  generalize rF op = rf at *
  generalize rWords = A at *
  generalize rHas = B at *
  clear h1 h2 hlt
  intro σ
  refine Tri.of_awp mixed Tryz.func52 rfl (by kernel_rfl) (by kernel_rfl) (by simp [Tryz.ntmps52]) Tryz.results52 ?_
  repeat' (first | refine xs ?_ ?_ <;> intros | (refine wn ?_; intro bx hbx; try simp only [fb] at hbx) | refine wj ?_ | simp -dsimp only [↓bp, bq, br, seval, tbRCodA, *] | refine wz ?_ | fail)
  all_goals rfl
theorem rhas_pure (s : List UInt8) (hs : s.length <= 1000000000) (c : UInt8) : Pure Tryz.prog G 53 [.str s, .int .u8 c.toNat] (.bool (s.contains c)) := by
 intro σ
 refine Tri.of_awp mixed Tryz.func53 rfl (by kernel_rfl) (by kernel_rfl) (by simp [Tryz.ntmps53]) Tryz.results53 ?_
 repeat' (first | refine xs ?_ ?_ <;> intros | (refine wn ?_; intro bx hbx; try simp only [fb] at hbx) | refine wj ?_ | simp -dsimp only [↓bp, bq, br, seval, tbRCodA, *] | refine wz ?_ | fail)
 refine loop_keep mixed (fun n e => ∃ i : Nat, i <= (s).length /\ n = (s).length - i /\ e 5 = .int .i64 i /\ (s.take i).contains c = false) (s).length
   ⟨0, by omega, by omega, by simp -dsimp only [↓bp, bq, br, seval, tbRCodA]; first | done | rfl, by simp⟩ ?_
 rintro n v ⟨i, hi, rfl, h5, hct⟩
 simp -dsimp only [↓bp, bq, br, seval, tbRCodA] at h5
 simp -dsimp only [↓bp, bq, br, seval, tbRCodA, h5]
 refine condW_dec (fun hlt => ?_) (fun hge => ?_)
 ·obtain ⟨w, hx⟩ : ∃ w, s[i]? = some w := ⟨_, List.getElem?_eq_getElem (by omega)⟩
  have hwi : IntKind.i64.wrap ((i : Int) + 1) = ((i + 1 : Nat) : Int) := by rw [wrap_nat (by omega) (by omega)]; rfl
  have hil : i < s.length := (List.getElem?_eq_some_iff.1 hx).1
  have htk := take_succ_get _ _ _ hx
  clear hi hlt
  by_cases hws : w = c
  ·have hq : ((w.toNat : Int) = (c.toNat : Int)) = True := eq_true (by rw [hws])
   have hm : s.contains c = true := by rw [<- hws]; simpa using List.mem_of_getElem? hx
   rw [hm]
   clear hct htk hm hws
   repeat' (first | refine xs ?_ ?_ <;> intros | (refine wn ?_; intro bx hbx; try simp only [fb] at hbx) | refine wj ?_ | simp -dsimp only [↓bp, bq, br, seval, tbRCodA, *] | refine wz ?_ | fail)
   all_goals rfl
  ·have hq : ((w.toNat : Int) = (c.toNat : Int)) = False := eq_false (fun h => hws (u8_ne.1 h))
   have hnx : (s.take (i + 1)).contains c = false := by
    rw [htk, Bool.eq_false_iff]
    intro h
    rw [List.contains_iff_mem, List.mem_append] at h
    rcases h with h | h
    ·rw [<- List.contains_iff_mem, hct] at h; cases h
    ·simp at h; exact hws h.symm
   clear hct htk hws
   repeat' (first | refine xs ?_ ?_ <;> intros | (refine wn ?_; intro bx hbx; try simp only [fb] at hbx) | refine wj ?_ | simp -dsimp only [↓bp, bq, br, seval, tbRCodA, *] | refine wz ?_ | fail)
   all_goals exact ⟨s.length - (i + 1), by omega, i + 1, by omega, by omega, rfl, hnx⟩
 ·have : i = s.length := by omega
  subst this
  rw [List.take_length] at hct
  rw [hct]
  clear hi hge hct
  repeat' (first | refine xs ?_ ?_ <;> intros | (refine wn ?_; intro bx hbx; try simp only [fb] at hbx) | refine wj ?_ | simp -dsimp only [↓bp, bq, br, seval, tbRCodA, *] | refine wz ?_ | fail)
  all_goals rfl
theorem rF_len (op : UInt8) : (rF op).length <= 4 := by
 have := op_all (p := fun op => decide ((rF op).length <= 4)) (by decide +kernel) op
 simpa using this
theorem rh_pure (op c : UInt8) : Pure Tryz.prog G 53 [.str (rF op), .int .u8 c.toNat] (.bool (rH op c)) := rhas_pure G (rF op) (by have := rF_len op; omega) c
theorem le_set1 {σ s : AS} {b : Nat} {cs : List AV} (hf : σ.fresh b) (h : (σ.setBox b cs).le s) : σ.le s := ((AS.le.refl σ).setBox hf.1 cs).trans h
theorem ints_len (l : List Int) : ∀ a, a ∈ l.map intA -> (flat a).length = 1 := fun a ha => (ints_ok l a ha).1
set_option maxHeartbeats 4000000 in
theorem rreads_pure (i : Ins) (hi : i.bulk <= 1000000000) : Pure Tryz.prog G 26 [i.enc] (rowOf intA (reads i)) := by
 have hf := rfields_pure G i.op
 have h66 := rh_pure G i.op 66
 have h67 := rh_pure G i.op 67
 have h83 := rh_pure G i.op 83
 have hsl : i.slots.length <= 1000000000 := by unfold Ins.bulk at hi; omega
 rw [reads_eq]
 unfold rReads
 have he : i.enc = .agg [.int .u8 i.op.toNat, .int .i64 i.a, .int .i64 i.b, .int .i64 i.c, .int .i64 i.n, .int .i64 i.l, .str i.text, rowOf intA i.slots] := rfl
 rw [he]
 generalize rF i.op = F at *
 generalize rW i.op = W at *
 generalize rH i.op 66 = b66 at *
 generalize rH i.op 67 = b67 at *
 generalize rH i.op 83 = b83 at *
 clear hi he
 refine Pure.of_le fun σ => ?_
 cases b66 <;> cases b67 <;> cases b83
 all_goals simp only [if_true, if_false, Bool.false_eq_true, List.nil_append, List.append_nil, List.cons_append]
 ·refine Tri.of_awp mixed Tryz.func26 rfl (by kernel_rfl) (by kernel_rfl) (by simp [Tryz.ntmps26]) Tryz.results26 ?_
  repeat' (first | refine xs ?_ ?_ <;> intros | (refine wn ?_; intro bx hbx; try simp only [fb] at hbx) | refine wp hf ?_ | refine wp h66 ?_ | refine wp h67 ?_ | refine wp h83 ?_ | refine wj ?_ | simp -dsimp only [↓bp, bq, br, seval, tbRCodA, *] | refine wz ?_ | fail)
  all_goals exact finish_le Le.nil (by repeat' first | exact lr _ | assumption | refine ls ?_ ?_ | refine lt ?_ ?_ | simp only [*]; done | simp only [fb, *, not_false_eq_true, and_self]; done | exact lf ‹_› (by simp only [*]))
 ·refine Tri.of_awp mixed Tryz.func26 rfl (by kernel_rfl) (by kernel_rfl) (by simp [Tryz.ntmps26]) Tryz.results26 ?_
  repeat' (first | refine xs ?_ ?_ <;> intros | (refine wn ?_; intro bx hbx; try simp only [fb] at hbx) | refine wp hf ?_ | refine wp h66 ?_ | refine wp h67 ?_ | refine wp h83 ?_ | ((refine app_buf (ys := i.slots.map intA) (Buf.nil (AS.le.refl _)) tfI (asrc_rowOf tfIE) (ints_len i.slots) (by simp only [List.length_map, List.length_cons, List.length_nil, List.length_append, List.nil_append]; omega) (fun v3 σ3 hB3 hx3 => ?_))) | refine wj ?_ | simp -dsimp only [↓bp, bq, br, seval, tbRCodA, *] | refine wz ?_ | fail)
  repeat' (first | refine xs ?_ ?_ <;> intros | (refine wn ?_; intro bx hbx; try simp only [fb] at hbx) | refine wp hf ?_ | refine wp h66 ?_ | refine wp h67 ?_ | refine wp h83 ?_ | refine wj ?_ | simp -dsimp only [↓bp, bq, br, seval, tbRCodA, *] | refine wz ?_ | fail)
  all_goals exact finish_le hB3.told (le_set1 hbx hB3.le)
 ·refine Tri.of_awp mixed Tryz.func26 rfl (by kernel_rfl) (by kernel_rfl) (by simp [Tryz.ntmps26]) Tryz.results26 ?_
  repeat' (first | refine xs ?_ ?_ <;> intros | (refine wn ?_; intro bx hbx; try simp only [fb] at hbx) | refine wp hf ?_ | refine wp h66 ?_ | refine wp h67 ?_ | refine wp h83 ?_ | ((refine build_one tfI (a := .int .i64 i.c) rfl rfl (by omega) ?_)) | ((refine app_buf (ys := [intA i.c]) (Buf.nil (AS.le.refl _)) tfI (asrc_sl tfIE) (ints_len [i.c]) (by simp) (fun v3 σ3 hB3 hx3 => ?_))) | refine wj ?_ | simp -dsimp only [↓bp, bq, br, seval, tbRCodA, *] | refine wz ?_ | fail)
  repeat' (first | refine xs ?_ ?_ <;> intros | (refine wn ?_; intro bx hbx; try simp only [fb] at hbx) | refine wp hf ?_ | refine wp h66 ?_ | refine wp h67 ?_ | refine wp h83 ?_ | refine wj ?_ | simp -dsimp only [↓bp, bq, br, seval, tbRCodA, *] | refine wz ?_ | fail)
  all_goals exact finish_le hB3.told (le_set1 hbx hB3.le)
 ·refine Tri.of_awp mixed Tryz.func26 rfl (by kernel_rfl) (by kernel_rfl) (by simp [Tryz.ntmps26]) Tryz.results26 ?_
  repeat' (first | refine xs ?_ ?_ <;> intros | (refine wn ?_; intro bx hbx; try simp only [fb] at hbx) | refine wp hf ?_ | refine wp h66 ?_ | refine wp h67 ?_ | refine wp h83 ?_ | ((refine build_one tfI (a := .int .i64 i.c) rfl rfl (by omega) ?_)) | ((refine app_buf (ys := [intA i.c]) (Buf.nil (AS.le.refl _)) tfI (asrc_sl tfIE) (ints_len [i.c]) (by simp) (fun v3 σ3 hB3 hx3 => ?_))) | refine wj ?_ | simp -dsimp only [↓bp, bq, br, seval, tbRCodA, *] | refine wz ?_ | fail)
  repeat' (first | refine xs ?_ ?_ <;> intros | (refine wn ?_; intro bx hbx; try simp only [fb] at hbx) | refine wp hf ?_ | refine wp h66 ?_ | refine wp h67 ?_ | refine wp h83 ?_ | ((refine app_buf (ys := i.slots.map intA) (hB3) tfI (asrc_rowOf tfIE) (ints_len i.slots) (by simp only [List.length_map, List.length_cons, List.length_nil, List.length_append, List.nil_append]; omega) (fun v4 σ4 hB4 hx4 => ?_))) | refine wj ?_ | simp -dsimp only [↓bp, bq, br, seval, tbRCodA, *] | refine wz ?_ | fail)
  repeat' (first | refine xs ?_ ?_ <;> intros | (refine wn ?_; intro bx hbx; try simp only [fb] at hbx) | refine wp hf ?_ | refine wp h66 ?_ | refine wp h67 ?_ | refine wp h83 ?_ | refine wj ?_ | simp -dsimp only [↓bp, bq, br, seval, tbRCodA, *] | refine wz ?_ | fail)
  all_goals exact finish_le hB4.told (le_set1 hbx hB4.le)
 ·refine Tri.of_awp mixed Tryz.func26 rfl (by kernel_rfl) (by kernel_rfl) (by simp [Tryz.ntmps26]) Tryz.results26 ?_
  repeat' (first | refine xs ?_ ?_ <;> intros | (refine wn ?_; intro bx hbx; try simp only [fb] at hbx) | refine wp hf ?_ | refine wp h66 ?_ | refine wp h67 ?_ | refine wp h83 ?_ | ((refine build_one tfI (a := .int .i64 i.b) rfl rfl (by omega) ?_)) | ((refine app_buf (ys := [intA i.b]) (Buf.nil (AS.le.refl _)) tfI (asrc_sl tfIE) (ints_len [i.b]) (by simp) (fun v3 σ3 hB3 hx3 => ?_))) | refine wj ?_ | simp -dsimp only [↓bp, bq, br, seval, tbRCodA, *] | refine wz ?_ | fail)
  repeat' (first | refine xs ?_ ?_ <;> intros | (refine wn ?_; intro bx hbx; try simp only [fb] at hbx) | refine wp hf ?_ | refine wp h66 ?_ | refine wp h67 ?_ | refine wp h83 ?_ | refine wj ?_ | simp -dsimp only [↓bp, bq, br, seval, tbRCodA, *] | refine wz ?_ | fail)
  all_goals exact finish_le hB3.told (le_set1 hbx hB3.le)
 ·refine Tri.of_awp mixed Tryz.func26 rfl (by kernel_rfl) (by kernel_rfl) (by simp [Tryz.ntmps26]) Tryz.results26 ?_
  repeat' (first | refine xs ?_ ?_ <;> intros | (refine wn ?_; intro bx hbx; try simp only [fb] at hbx) | refine wp hf ?_ | refine wp h66 ?_ | refine wp h67 ?_ | refine wp h83 ?_ | ((refine build_one tfI (a := .int .i64 i.b) rfl rfl (by omega) ?_)) | ((refine app_buf (ys := [intA i.b]) (Buf.nil (AS.le.refl _)) tfI (asrc_sl tfIE) (ints_len [i.b]) (by simp) (fun v3 σ3 hB3 hx3 => ?_))) | refine wj ?_ | simp -dsimp only [↓bp, bq, br, seval, tbRCodA, *] | refine wz ?_ | fail)
  repeat' (first | refine xs ?_ ?_ <;> intros | (refine wn ?_; intro bx hbx; try simp only [fb] at hbx) | refine wp hf ?_ | refine wp h66 ?_ | refine wp h67 ?_ | refine wp h83 ?_ | ((refine app_buf (ys := i.slots.map intA) (hB3) tfI (asrc_rowOf tfIE) (ints_len i.slots) (by simp only [List.length_map, List.length_cons, List.length_nil, List.length_append, List.nil_append]; omega) (fun v4 σ4 hB4 hx4 => ?_))) | refine wj ?_ | simp -dsimp only [↓bp, bq, br, seval, tbRCodA, *] | refine wz ?_ | fail)
  repeat' (first | refine xs ?_ ?_ <;> intros | (refine wn ?_; intro bx hbx; try simp only [fb] at hbx) | refine wp hf ?_ | refine wp h66 ?_ | refine wp h67 ?_ | refine wp h83 ?_ | refine wj ?_ | simp -dsimp only [↓bp, bq, br, seval, tbRCodA, *] | refine wz ?_ | fail)
  all_goals exact finish_le hB4.told (le_set1 hbx hB4.le)
 ·refine Tri.of_awp mixed Tryz.func26 rfl (by kernel_rfl) (by kernel_rfl) (by simp [Tryz.ntmps26]) Tryz.results26 ?_
  repeat' (first | refine xs ?_ ?_ <;> intros | (refine wn ?_; intro bx hbx; try simp only [fb] at hbx) | refine wp hf ?_ | refine wp h66 ?_ | refine wp h67 ?_ | refine wp h83 ?_ | ((refine build_one tfI (a := .int .i64 i.b) rfl rfl (by omega) ?_)) | ((refine app_buf (ys := [intA i.b]) (Buf.nil (AS.le.refl _)) tfI (asrc_sl tfIE) (ints_len [i.b]) (by simp) (fun v3 σ3 hB3 hx3 => ?_))) | refine wj ?_ | simp -dsimp only [↓bp, bq, br, seval, tbRCodA, *] | refine wz ?_ | fail)
  repeat' (first | refine xs ?_ ?_ <;> intros | (refine wn ?_; intro bx hbx; try simp only [fb] at hbx) | refine wp hf ?_ | refine wp h66 ?_ | refine wp h67 ?_ | refine wp h83 ?_ | ((refine build_one tfI (a := .int .i64 i.c) rfl rfl (by omega) ?_)) | ((refine app_buf (ys := [intA i.c]) (hB3) tfI (asrc_sl tfIE) (ints_len [i.c]) (by simp) (fun v4 σ4 hB4 hx4 => ?_))) | refine wj ?_ | simp -dsimp only [↓bp, bq, br, seval, tbRCodA, *] | refine wz ?_ | fail)
  repeat' (first | refine xs ?_ ?_ <;> intros | (refine wn ?_; intro bx hbx; try simp only [fb] at hbx) | refine wp hf ?_ | refine wp h66 ?_ | refine wp h67 ?_ | refine wp h83 ?_ | refine wj ?_ | simp -dsimp only [↓bp, bq, br, seval, tbRCodA, *] | refine wz ?_ | fail)
  all_goals exact finish_le hB4.told (le_set1 hbx hB4.le)
 ·refine Tri.of_awp mixed Tryz.func26 rfl (by kernel_rfl) (by kernel_rfl) (by simp [Tryz.ntmps26]) Tryz.results26 ?_
  repeat' (first | refine xs ?_ ?_ <;> intros | (refine wn ?_; intro bx hbx; try simp only [fb] at hbx) | refine wp hf ?_ | refine wp h66 ?_ | refine wp h67 ?_ | refine wp h83 ?_ | ((refine build_one tfI (a := .int .i64 i.b) rfl rfl (by omega) ?_)) | ((refine app_buf (ys := [intA i.b]) (Buf.nil (AS.le.refl _)) tfI (asrc_sl tfIE) (ints_len [i.b]) (by simp) (fun v3 σ3 hB3 hx3 => ?_))) | refine wj ?_ | simp -dsimp only [↓bp, bq, br, seval, tbRCodA, *] | refine wz ?_ | fail)
  repeat' (first | refine xs ?_ ?_ <;> intros | (refine wn ?_; intro bx hbx; try simp only [fb] at hbx) | refine wp hf ?_ | refine wp h66 ?_ | refine wp h67 ?_ | refine wp h83 ?_ | ((refine build_one tfI (a := .int .i64 i.c) rfl rfl (by omega) ?_)) | ((refine app_buf (ys := [intA i.c]) (hB3) tfI (asrc_sl tfIE) (ints_len [i.c]) (by simp) (fun v4 σ4 hB4 hx4 => ?_))) | refine wj ?_ | simp -dsimp only [↓bp, bq, br, seval, tbRCodA, *] | refine wz ?_ | fail)
  repeat' (first | refine xs ?_ ?_ <;> intros | (refine wn ?_; intro bx hbx; try simp only [fb] at hbx) | refine wp hf ?_ | refine wp h66 ?_ | refine wp h67 ?_ | refine wp h83 ?_ | ((refine app_buf (ys := i.slots.map intA) (hB4) tfI (asrc_rowOf tfIE) (ints_len i.slots) (by simp only [List.length_map, List.length_cons, List.length_nil, List.length_append, List.nil_append]; omega) (fun v5 σ5 hB5 hx5 => ?_))) | refine wj ?_ | simp -dsimp only [↓bp, bq, br, seval, tbRCodA, *] | refine wz ?_ | fail)
  repeat' (first | refine xs ?_ ?_ <;> intros | (refine wn ?_; intro bx hbx; try simp only [fb] at hbx) | refine wp hf ?_ | refine wp h66 ?_ | refine wp h67 ?_ | refine wp h83 ?_ | refine wj ?_ | simp -dsimp only [↓bp, bq, br, seval, tbRCodA, *] | refine wz ?_ | fail)
  all_goals exact finish_le hB5.told (le_set1 hbx hB5.le)
end
set_option maxRecDepth 20000
section
variable {G : Nat -> AV}
theorem ints_cells (l : List Int) : (l.map intA).flatMap flat = l.map intA := by
 induction l with
 | nil => rfl
 | cons a l ih => rw [List.map_cons, List.flatMap_cons, ih]; rfl
end
end Go.Proofs.YtjmdaeabllkgnaaGreatDoor
