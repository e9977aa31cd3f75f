/- Code: the document's fields, what is read and written, where it goes on: walked. -/
import Derived.Test.YtjmdaeabllkgnaaGreatDoorZ24
import Derived.Test.YtjmdaeabllkgnaaGreatDoorZ40
import Derived.Test.YtjmdaeabllkgnaaGreatDoorZ23
import Derived.Test.YtjmdaeabllkgnaaGreatDoorZ31
set_option linter.unusedVariables false
set_option linter.unusedSimpArgs false
set_option maxRecDepth 20000
set_option linter.defProp false
namespace Go.Proofs.YtjmdaeabllkgnaaGreatDoor
open Go Go.Av
section
def tbRCodA := And.intro (And.intro (And.intro (And.intro @tf3 (And.intro @tf4 @tf5)) (And.intro (And.intro @tf9 @tf124) (And.intro @tf37 @tf39))) (And.intro (And.intro (And.intro @tf23 @tf30) (And.intro @tf53 @tf22)) (And.intro (And.intro @tf26 @tf24) (And.intro @isv_rowOf @flat_rowOf)))) (And.intro (And.intro (And.intro (And.intro @len_rowOf @ix_rowOf) (And.intro @isv_encs @flat_encs)) (And.intro (And.intro @len_encs @Ins.flat_enc) (And.intro @Ins.isv_enc @Ins.fold_enc))) (And.intro (And.intro (And.intro @Ent.flat_enc @Ent.isv_enc) (And.intro @Ent.fold_enc @Cod.flat_enc)) (And.intro (And.intro @Cod.isv_enc @Cod.fold_enc) (And.intro @ares_tmpc @ares_cellc))))
variable (G : Nat → AV)
theorem rwords_at {op : UInt8} (h : 1 ≤ op.toNat) (h2 : op.toNat ≤ 29) : rWords[op.toNat - 1]? = some (rW op) ∧ rHas[op.toNat - 1]? = some (rF op) := by
 unfold rW rF
 rw [if_neg (by omega), if_neg (by omega), List.getD_eq_getElem?_getD, List.getD_eq_getElem?_getD]
 have l1 : rWords.length = 29 := rfl
 have l2 : rHas.length = 29 := rfl
 rw [List.getElem?_eq_getElem (by omega), List.getElem?_eq_getElem (by omega)]
 exact ⟨rfl, rfl⟩
set_option maxHeartbeats 2000000 in
theorem rfields_pure (op : UInt8) : Pure Tryz.prog G 52 [.int .u8 op.toNat] (.tup [.str (rW op), .str (rF op)]) := by
 have hlt := op.toNat_lt
 have hW : AV.sl .full [.str [99, 111, 110, 115, 116], .str [109, 111, 118, 101], .str [116, 117, 112, 108, 101], .str [99, 111, 110, 115], .str [102, 117, 110], .str [99, 97, 108, 108], .str [116, 97, 105, 108], .str [97, 112, 112, 108, 121], .str [116, 97, 105, 108, 102, 117, 110], .str [98, 105, 102], .str [114, 101, 116, 117, 114, 110], .str [106, 117, 109, 112], .str [105, 115, 116, 117, 112, 108, 101], .str [105, 115, 99, 111, 110, 115], .str [105, 115, 99, 111, 110, 115, 116], .str [105, 115, 115, 97, 109, 101], .str [101, 108, 101, 109], .str [104, 101, 97, 100], .str [114, 101, 115, 116], .str [103, 117, 97, 114, 100], .str [114, 101, 99, 101, 105, 118, 101], .str [110, 101, 120, 116], .str [116, 97, 107, 101], .str [115, 107, 105, 112], .str [116, 105, 109, 101], .str [116, 114, 121], .str [117, 110, 116, 114, 121], .str [102, 97, 105, 108], .str [114, 97, 105, 115, 101]] [] = .sl .full (rWords.map AV.str) [] := rfl
 have hH : AV.sl .full [.str [65, 78], .str [65, 66], .str [65, 83], .str [65, 66, 67], .str [65, 78, 83], .str [65, 78, 83], .str [78, 83], .str [65, 66, 83], .str [66, 83], .str [65, 84, 83], .str [66], .str [76], .str [66, 78, 76], .str [66, 76], .str [66, 78, 76], .str [66, 67, 76], .str [65, 66, 78], .str [65, 66], .str [65, 66], .str [65, 84, 83, 76], .str [78], .str [65, 76], .str [], .str [76], .str [66], .str [65, 76], .str [], .str [66], .str [66]] [] = .sl .full (rHas.map AV.str) [] := rfl
 have l1 : rWords.length = 29 := rfl
 have l2 : rHas.length = 29 := rfl
 have hw : IntKind.i64.wrap (op.toNat : Int) = op.toNat := wrap_nat (by omega) (by omega)
 by_cases h1 : op.toNat < 1
 ·have h1' : ((op.toNat : Int) < 1) = True := eq_true (by omega)
  have e1 : rW op = [] := by unfold rW; rw [if_pos (.inl h1)]
  have e2 : rF op = [] := by unfold rF; rw [if_pos (.inl h1)]
  rw [e1, e2]
  clear e1 e2 h1 hlt
  generalize rWords = A at *
  generalize rHas = B at *
  intro σ
  refine Tri.of_awp mixed Tryz.func52 rfl (by kernel_rfl) (by kernel_rfl) (by simp [Tryz.ntmps52]) Tryz.results52 ?_
  repeat' (first | refine xs ?_ ?_ <;> intros | (refine wn ?_; intro bx hbx; try simp only [fb] at hbx) | refine wj ?_ | simp -dsimp only [↓bp, bq, br, seval, tbRCodA, *] | refine wz ?_ | fail)
  all_goals rfl
 by_cases h2 : 29 < op.toNat
 ·have h1' : ((op.toNat : Int) < 1) = False := eq_false (by omega)
  have h2' : ((29 : Int) < (op.toNat : Int)) = True := eq_true (by omega)
  have e1 : rW op = [] := by unfold rW; rw [if_pos (.inr h2)]
  have e2 : rF op = [] := by unfold rF; rw [if_pos (.inr h2)]
  rw [e1, e2]
  clear e1 e2 h1 h2 hlt
  generalize rWords = A at *
  generalize rHas = B at *
  intro σ
  refine Tri.of_awp mixed Tryz.func52 rfl (by kernel_rfl) (by kernel_rfl) (by simp [Tryz.ntmps52]) Tryz.results52 ?_
  repeat' (first | refine xs ?_ ?_ <;> intros | (refine wn ?_; intro bx hbx; try simp only [fb] at hbx) | refine wj ?_ | simp -dsimp only [↓bp, bq, br, seval, tbRCodA, *] | refine wz ?_ | fail)
  all_goals rfl
 ·have h1' : ((op.toNat : Int) < 1) = False := eq_false (by omega)
  have h2' : ((29 : Int) < (op.toNat : Int)) = False := eq_false (by omega)
  obtain ⟨a1, a2⟩ := rwords_at (op := op) (by omega) (by omega)
  have hk : IntKind.u8.wrap ((op.toNat : Int) - 1) = ((op.toNat - 1 : Nat) : Int) := by rw [IntKind.wrap_u8]; omega
  generalize op.toNat - 1 = k at *
  generalize rW op = rw at *
  generalize rF op = rf at *
  generalize rWords = A at *
  generalize rHas = B at *
  clear h1 h2 hlt
  intro σ
  refine Tri.of_awp mixed Tryz.func52 rfl (by kernel_rfl) (by kernel_rfl) (by simp [Tryz.ntmps52]) Tryz.results52 ?_
  repeat' (first | refine xs ?_ ?_ <;> intros | (refine wn ?_; intro bx hbx; try simp only [fb] at hbx) | refine wj ?_ | simp -dsimp only [↓bp, bq, br, seval, tbRCodA, *] | refine wz ?_ | fail)
  all_goals rfl
theorem rhas_pure (s : List UInt8) (hs : s.length ≤ 1000000000) (c : UInt8) : Pure Tryz.prog G 53 [.str s, .int .u8 c.toNat] (.bool (s.contains c)) := by
 intro σ
 refine Tri.of_awp mixed Tryz.func53 rfl (by kernel_rfl) (by kernel_rfl) (by simp [Tryz.ntmps53]) Tryz.results53 ?_
 repeat' (first | refine xs ?_ ?_ <;> intros | (refine wn ?_; intro bx hbx; try simp only [fb] at hbx) | refine wj ?_ | simp -dsimp only [↓bp, bq, br, seval, tbRCodA, *] | refine wz ?_ | fail)
 refine loop_keep mixed (fun n e => ∃ i : Nat, i ≤ (s).length ∧ n = (s).length - i ∧ e 5 = .int .i64 i ∧ (s.take i).contains c = false) (s).length
   ⟨0, by omega, by omega, by simp -dsimp only [↓bp, bq, br, seval, tbRCodA]; first | done | rfl, by simp⟩ ?_
 rintro n v ⟨i, hi, rfl, h5, hct⟩
 simp -dsimp only [↓bp, bq, br, seval, tbRCodA] at h5
 simp -dsimp only [↓bp, bq, br, seval, tbRCodA, h5]
 refine condW_dec (fun hlt => ?_) (fun hge => ?_)
 ·obtain ⟨w, hx⟩ : ∃ w, s[i]? = some w := ⟨_, List.getElem?_eq_getElem (by omega)⟩
  have hwi : IntKind.i64.wrap ((i : Int) + 1) = ((i + 1 : Nat) : Int) := by rw [wrap_nat (by omega) (by omega)]; rfl
  have hil : i < s.length := (List.getElem?_eq_some_iff.1 hx).1
  have htk := take_succ_get _ _ _ hx
  clear hi hlt
  by_cases hws : w = c
  ·have hq : ((w.toNat : Int) = (c.toNat : Int)) = True := eq_true (by rw [hws])
   have hm : s.contains c = true := by rw [← hws]; simpa using List.mem_of_getElem? hx
   rw [hm]
   clear hct htk hm hws
   repeat' (first | refine xs ?_ ?_ <;> intros | (refine wn ?_; intro bx hbx; try simp only [fb] at hbx) | refine wj ?_ | simp -dsimp only [↓bp, bq, br, seval, tbRCodA, *] | refine wz ?_ | fail)
   all_goals rfl
  ·have hq : ((w.toNat : Int) = (c.toNat : Int)) = False := eq_false (fun h => hws (u8_ne.1 h))
   have hnx : (s.take (i + 1)).contains c = false := by
    rw [htk, Bool.eq_false_iff]
    intro h
    rw [List.contains_iff_mem, List.mem_append] at h
    rcases h with h | h
    ·rw [← List.contains_iff_mem, hct] at h; cases h
    ·simp at h; exact hws h.symm
   clear hct htk hws
   repeat' (first | refine xs ?_ ?_ <;> intros | (refine wn ?_; intro bx hbx; try simp only [fb] at hbx) | refine wj ?_ | simp -dsimp only [↓bp, bq, br, seval, tbRCodA, *] | refine wz ?_ | fail)
   all_goals exact ⟨s.length - (i + 1), by omega, i + 1, by omega, by omega, rfl, hnx⟩
 ·have : i = s.length := by omega
  subst this
  rw [List.take_length] at hct
  rw [hct]
  clear hi hge hct
  repeat' (first | refine xs ?_ ?_ <;> intros | (refine wn ?_; intro bx hbx; try simp only [fb] at hbx) | refine wj ?_ | simp -dsimp only [↓bp, bq, br, seval, tbRCodA, *] | refine wz ?_ | fail)
  all_goals rfl
theorem rF_len (op : UInt8) : (rF op).length ≤ 4 := by
 have := op_all (p := fun op => decide ((rF op).length ≤ 4)) (by decide +kernel) op
 simpa using this
theorem rh_pure (op c : UInt8) : Pure Tryz.prog G 53 [.str (rF op), .int .u8 c.toNat] (.bool (rH op c)) := rhas_pure G (rF op) (by have := rF_len op; omega) c
theorem rwrites_pure (i : Ins) : Pure Tryz.prog G 25 [i.enc] (.tup [.int .i64 (if writesB i = true then i.a else 0), .bool (writesB i)]) := by
 have hf := rfields_pure G i.op
 have h65 := rh_pure G i.op 65
 rw [writes_eq]
 unfold Ins.enc Ins.opI
 generalize rF i.op = F at *
 generalize rW i.op = W at *
 cases hb : rH i.op 65 with
 | true =>
  rw [hb] at h65
  rw [if_pos rfl]
  clear hb
  intro σ
  refine Tri.of_awp mixed Tryz.func25 rfl (by kernel_rfl) (by kernel_rfl) (by simp [Tryz.ntmps25]) Tryz.results25 ?_
  repeat' (first | refine xs ?_ ?_ <;> intros | (refine wn ?_; intro bx hbx; try simp only [fb] at hbx) | refine wp hf ?_ | refine wp h65 ?_ | refine wj ?_ | simp -dsimp only [↓bp, bq, br, seval, tbRCodA, *] | refine wz ?_ | fail)
  all_goals rfl
 | false =>
  rw [hb] at h65
  rw [if_neg (by simp)]
  clear hb
  intro σ
  refine Tri.of_awp mixed Tryz.func25 rfl (by kernel_rfl) (by kernel_rfl) (by simp [Tryz.ntmps25]) Tryz.results25 ?_
  repeat' (first | refine xs ?_ ?_ <;> intros | (refine wn ?_; intro bx hbx; try simp only [fb] at hbx) | refine wp hf ?_ | refine wp h65 ?_ | refine wj ?_ | simp -dsimp only [↓bp, bq, br, seval, tbRCodA, *] | refine wz ?_ | fail)
  all_goals rfl
theorem le_set1 {σ s : AS} {b : Nat} {cs : List AV} (hf : σ.fresh b) (h : (σ.setBox b cs).le s) : σ.le s := ((AS.le.refl σ).setBox hf.1 cs).trans h
theorem ints_len (l : List Int) : ∀ a, a ∈ l.map intA → (flat a).length = 1 := fun a ha => (ints_ok l a ha).1
set_option maxHeartbeats 4000000 in
theorem rreads_pure (i : Ins) (hi : i.bulk ≤ 1000000000) : Pure Tryz.prog G 26 [i.enc] (rowOf intA (reads i)) := by
 have hf := rfields_pure G i.op
 have h66 := rh_pure G i.op 66
 have h67 := rh_pure G i.op 67
 have h83 := rh_pure G i.op 83
 have hsl : i.slots.length ≤ 1000000000 := by unfold Ins.bulk at hi; omega
 rw [reads_eq]
 unfold rReads
 have he : i.enc = .agg [.int .u8 i.op.toNat, .int .i64 i.a, .int .i64 i.b, .int .i64 i.c, .int .i64 i.n, .int .i64 i.l, .str i.text, rowOf intA i.slots] := rfl
 rw [he]
 generalize rF i.op = F at *
 generalize rW i.op = W at *
 generalize rH i.op 66 = b66 at *
 generalize rH i.op 67 = b67 at *
 generalize rH i.op 83 = b83 at *
 clear hi he
 refine Pure.of_le fun σ => ?_
 cases b66 <;> cases b67 <;> cases b83
 all_goals simp only [if_true, if_false, Bool.false_eq_true, List.nil_append, List.append_nil, List.cons_append]
 ·refine Tri.of_awp mixed Tryz.func26 rfl (by kernel_rfl) (by kernel_rfl) (by simp [Tryz.ntmps26]) Tryz.results26 ?_
  repeat' (first | refine xs ?_ ?_ <;> intros | (refine wn ?_; intro bx hbx; try simp only [fb] at hbx) | refine wp hf ?_ | refine wp h66 ?_ | refine wp h67 ?_ | refine wp h83 ?_ | refine wj ?_ | simp -dsimp only [↓bp, bq, br, seval, tbRCodA, *] | refine wz ?_ | fail)
  all_goals exact finish_le Le.nil (by repeat' first | exact lr _ | assumption | refine ls ?_ ?_ | refine lt ?_ ?_ | simp only [*]; done | simp only [fb, *, not_false_eq_true, and_self]; done | exact lf ‹_› (by simp only [*]))
 ·refine Tri.of_awp mixed Tryz.func26 rfl (by kernel_rfl) (by kernel_rfl) (by simp [Tryz.ntmps26]) Tryz.results26 ?_
  repeat' (first | refine xs ?_ ?_ <;> intros | (refine wn ?_; intro bx hbx; try simp only [fb] at hbx) | refine wp hf ?_ | refine wp h66 ?_ | refine wp h67 ?_ | refine wp h83 ?_ | ((refine app_buf (ys := i.slots.map intA) (Buf.nil (AS.le.refl _)) tfI (asrc_rowOf tfIE) (ints_len i.slots) (by simp only [List.length_map, List.length_cons, List.length_nil, List.length_append, List.nil_append]; omega) (fun v3 σ3 hB3 hx3 => ?_))) | refine wj ?_ | simp -dsimp only [↓bp, bq, br, seval, tbRCodA, *] | refine wz ?_ | fail)
  repeat' (first | refine xs ?_ ?_ <;> intros | (refine wn ?_; intro bx hbx; try simp only [fb] at hbx) | refine wp hf ?_ | refine wp h66 ?_ | refine wp h67 ?_ | refine wp h83 ?_ | refine wj ?_ | simp -dsimp only [↓bp, bq, br, seval, tbRCodA, *] | refine wz ?_ | fail)
  all_goals exact finish_le hB3.told (le_set1 hbx hB3.le)
 ·refine Tri.of_awp mixed Tryz.func26 rfl (by kernel_rfl) (by kernel_rfl) (by simp [Tryz.ntmps26]) Tryz.results26 ?_
  repeat' (first | refine xs ?_ ?_ <;> intros | (refine wn ?_; intro bx hbx; try simp only [fb] at hbx) | refine wp hf ?_ | refine wp h66 ?_ | refine wp h67 ?_ | refine wp h83 ?_ | ((refine build_one tfI (a := .int .i64 i.c) rfl rfl (by omega) ?_)) | ((refine app_buf (ys := [intA i.c]) (Buf.nil (AS.le.refl _)) tfI (asrc_sl tfIE) (ints_len [i.c]) (by simp) (fun v3 σ3 hB3 hx3 => ?_))) | refine wj ?_ | simp -dsimp only [↓bp, bq, br, seval, tbRCodA, *] | refine wz ?_ | fail)
  repeat' (first | refine xs ?_ ?_ <;> intros | (refine wn ?_; intro bx hbx; try simp only [fb] at hbx) | refine wp hf ?_ | refine wp h66 ?_ | refine wp h67 ?_ | refine wp h83 ?_ | refine wj ?_ | simp -dsimp only [↓bp, bq, br, seval, tbRCodA, *] | refine wz ?_ | fail)
  all_goals exact finish_le hB3.told (le_set1 hbx hB3.le)
 ·refine Tri.of_awp mixed Tryz.func26 rfl (by kernel_rfl) (by kernel_rfl) (by simp [Tryz.ntmps26]) Tryz.results26 ?_
  repeat' (first | refine xs ?_ ?_ <;> intros | (refine wn ?_; intro bx hbx; try simp only [fb] at hbx) | refine wp hf ?_ | refine wp h66 ?_ | refine wp h67 ?_ | refine wp h83 ?_ | ((refine build_one tfI (a := .int .i64 i.c) rfl rfl (by omega) ?_)) | ((refine app_buf (ys := [intA i.c]) (Buf.nil (AS.le.refl _)) tfI (asrc_sl tfIE) (ints_len [i.c]) (by simp) (fun v3 σ3 hB3 hx3 => ?_))) | refine wj ?_ | simp -dsimp only [↓bp, bq, br, seval, tbRCodA, *] | refine wz ?_ | fail)
  repeat' (first | refine xs ?_ ?_ <;> intros | (refine wn ?_; intro bx hbx; try simp only [fb] at hbx) | refine wp hf ?_ | refine wp h66 ?_ | refine wp h67 ?_ | refine wp h83 ?_ | ((refine app_buf (ys := i.slots.map intA) (hB3) tfI (asrc_rowOf tfIE) (ints_len i.slots) (by simp only [List.length_map, List.length_cons, List.length_nil, List.length_append, List.nil_append]; omega) (fun v4 σ4 hB4 hx4 => ?_))) | refine wj ?_ | simp -dsimp only [↓bp, bq, br, seval, tbRCodA, *] | refine wz ?_ | fail)
  repeat' (first | refine xs ?_ ?_ <;> intros | (refine wn ?_; intro bx hbx; try simp only [fb] at hbx) | refine wp hf ?_ | refine wp h66 ?_ | refine wp h67 ?_ | refine wp h83 ?_ | refine wj ?_ | simp -dsimp only [↓bp, bq, br, seval, tbRCodA, *] | refine wz ?_ | fail)
  all_goals exact finish_le hB4.told (le_set1 hbx hB4.le)
 ·refine Tri.of_awp mixed Tryz.func26 rfl (by kernel_rfl) (by kernel_rfl) (by simp [Tryz.ntmps26]) Tryz.results26 ?_
  repeat' (first | refine xs ?_ ?_ <;> intros | (refine wn ?_; intro bx hbx; try simp only [fb] at hbx) | refine wp hf ?_ | refine wp h66 ?_ | refine wp h67 ?_ | refine wp h83 ?_ | ((refine build_one tfI (a := .int .i64 i.b) rfl rfl (by omega) ?_)) | ((refine app_buf (ys := [intA i.b]) (Buf.nil (AS.le.refl _)) tfI (asrc_sl tfIE) (ints_len [i.b]) (by simp) (fun v3 σ3 hB3 hx3 => ?_))) | refine wj ?_ | simp -dsimp only [↓bp, bq, br, seval, tbRCodA, *] | refine wz ?_ | fail)
  repeat' (first | refine xs ?_ ?_ <;> intros | (refine wn ?_; intro bx hbx; try simp only [fb] at hbx) | refine wp hf ?_ | refine wp h66 ?_ | refine wp h67 ?_ | refine wp h83 ?_ | refine wj ?_ | simp -dsimp only [↓bp, bq, br, seval, tbRCodA, *] | refine wz ?_ | fail)
  all_goals exact finish_le hB3.told (le_set1 hbx hB3.le)
 ·refine Tri.of_awp mixed Tryz.func26 rfl (by kernel_rfl) (by kernel_rfl) (by simp [Tryz.ntmps26]) Tryz.results26 ?_
  repeat' (first | refine xs ?_ ?_ <;> intros | (refine wn ?_; intro bx hbx; try simp only [fb] at hbx) | refine wp hf ?_ | refine wp h66 ?_ | refine wp h67 ?_ | refine wp h83 ?_ | ((refine build_one tfI (a := .int .i64 i.b) rfl rfl (by omega) ?_)) | ((refine app_buf (ys := [intA i.b]) (Buf.nil (AS.le.refl _)) tfI (asrc_sl tfIE) (ints_len [i.b]) (by simp) (fun v3 σ3 hB3 hx3 => ?_))) | refine wj ?_ | simp -dsimp only [↓bp, bq, br, seval, tbRCodA, *] | refine wz ?_ | fail)
  repeat' (first | refine xs ?_ ?_ <;> intros | (refine wn ?_; intro bx hbx; try simp only [fb] at hbx) | refine wp hf ?_ | refine wp h66 ?_ | refine wp h67 ?_ | refine wp h83 ?_ | ((refine app_buf (ys := i.slots.map intA) (hB3) tfI (asrc_rowOf tfIE) (ints_len i.slots) (by simp only [List.length_map, List.length_cons, List.length_nil, List.length_append, List.nil_append]; omega) (fun v4 σ4 hB4 hx4 => ?_))) | refine wj ?_ | simp -dsimp only [↓bp, bq, br, seval, tbRCodA, *] | refine wz ?_ | fail)
  repeat' (first | refine xs ?_ ?_ <;> intros | (refine wn ?_; intro bx hbx; try simp only [fb] at hbx) | refine wp hf ?_ | refine wp h66 ?_ | refine wp h67 ?_ | refine wp h83 ?_ | refine wj ?_ | simp -dsimp only [↓bp, bq, br, seval, tbRCodA, *] | refine wz ?_ | fail)
  all_goals exact finish_le hB4.told (le_set1 hbx hB4.le)
 ·refine Tri.of_awp mixed Tryz.func26 rfl (by kernel_rfl) (by kernel_rfl) (by simp [Tryz.ntmps26]) Tryz.results26 ?_
  repeat' (first | refine xs ?_ ?_ <;> intros | (refine wn ?_; intro bx hbx; try simp only [fb] at hbx) | refine wp hf ?_ | refine wp h66 ?_ | refine wp h67 ?_ | refine wp h83 ?_ | ((refine build_one tfI (a := .int .i64 i.b) rfl rfl (by omega) ?_)) | ((refine app_buf (ys := [intA i.b]) (Buf.nil (AS.le.refl _)) tfI (asrc_sl tfIE) (ints_len [i.b]) (by simp) (fun v3 σ3 hB3 hx3 => ?_))) | refine wj ?_ | simp -dsimp only [↓bp, bq, br, seval, tbRCodA, *] | refine wz ?_ | fail)
  repeat' (first | refine xs ?_ ?_ <;> intros | (refine wn ?_; intro bx hbx; try simp only [fb] at hbx) | refine wp hf ?_ | refine wp h66 ?_ | refine wp h67 ?_ | refine wp h83 ?_ | ((refine build_one tfI (a := .int .i64 i.c) rfl rfl (by omega) ?_)) | ((refine app_buf (ys := [intA i.c]) (hB3) tfI (asrc_sl tfIE) (ints_len [i.c]) (by simp) (fun v4 σ4 hB4 hx4 => ?_))) | refine wj ?_ | simp -dsimp only [↓bp, bq, br, seval, tbRCodA, *] | refine wz ?_ | fail)
  repeat' (first | refine xs ?_ ?_ <;> intros | (refine wn ?_; intro bx hbx; try simp only [fb] at hbx) | refine wp hf ?_ | refine wp h66 ?_ | refine wp h67 ?_ | refine wp h83 ?_ | refine wj ?_ | simp -dsimp only [↓bp, bq, br, seval, tbRCodA, *] | refine wz ?_ | fail)
  all_goals exact finish_le hB4.told (le_set1 hbx hB4.le)
 ·refine Tri.of_awp mixed Tryz.func26 rfl (by kernel_rfl) (by kernel_rfl) (by simp [Tryz.ntmps26]) Tryz.results26 ?_
  repeat' (first | refine xs ?_ ?_ <;> intros | (refine wn ?_; intro bx hbx; try simp only [fb] at hbx) | refine wp hf ?_ | refine wp h66 ?_ | refine wp h67 ?_ | refine wp h83 ?_ | ((refine build_one tfI (a := .int .i64 i.b) rfl rfl (by omega) ?_)) | ((refine app_buf (ys := [intA i.b]) (Buf.nil (AS.le.refl _)) tfI (asrc_sl tfIE) (ints_len [i.b]) (by simp) (fun v3 σ3 hB3 hx3 => ?_))) | refine wj ?_ | simp -dsimp only [↓bp, bq, br, seval, tbRCodA, *] | refine wz ?_ | fail)
  repeat' (first | refine xs ?_ ?_ <;> intros | (refine wn ?_; intro bx hbx; try simp only [fb] at hbx) | refine wp hf ?_ | refine wp h66 ?_ | refine wp h67 ?_ | refine wp h83 ?_ | ((refine build_one tfI (a := .int .i64 i.c) rfl rfl (by omega) ?_)) | ((refine app_buf (ys := [intA i.c]) (hB3) tfI (asrc_sl tfIE) (ints_len [i.c]) (by simp) (fun v4 σ4 hB4 hx4 => ?_))) | refine wj ?_ | simp -dsimp only [↓bp, bq, br, seval, tbRCodA, *] | refine wz ?_ | fail)
  repeat' (first | refine xs ?_ ?_ <;> intros | (refine wn ?_; intro bx hbx; try simp only [fb] at hbx) | refine wp hf ?_ | refine wp h66 ?_ | refine wp h67 ?_ | refine wp h83 ?_ | ((refine app_buf (ys := i.slots.map intA) (hB4) tfI (asrc_rowOf tfIE) (ints_len i.slots) (by simp only [List.length_map, List.length_cons, List.length_nil, List.length_append, List.nil_append]; omega) (fun v5 σ5 hB5 hx5 => ?_))) | refine wj ?_ | simp -dsimp only [↓bp, bq, br, seval, tbRCodA, *] | refine wz ?_ | fail)
  repeat' (first | refine xs ?_ ?_ <;> intros | (refine wn ?_; intro bx hbx; try simp only [fb] at hbx) | refine wp hf ?_ | refine wp h66 ?_ | refine wp h67 ?_ | refine wp h83 ?_ | refine wj ?_ | simp -dsimp only [↓bp, bq, br, seval, tbRCodA, *] | refine wz ?_ | fail)
  all_goals exact finish_le hB5.told (le_set1 hbx hB5.le)
end
set_option maxRecDepth 20000
section
def tbCodB2 := And.intro (And.intro (And.intro (And.intro @tf3 @tf4) (And.intro @tf5 (And.intro @tf9 @tf37))) (And.intro (And.intro @tf39 (And.intro @tf30 @tf66)) (And.intro @tf21 (And.intro @tf58 @tf24)))) (And.intro (And.intro (And.intro @tf56 (And.intro @tf55 @tf169)) (And.intro @isv_rowOf (And.intro @flat_rowOf @len_rowOf))) (And.intro (And.intro @ix_rowOf (And.intro @Ins.flat_enc @Ins.isv_enc)) (And.intro @Ins.fold_enc (And.intro @ares_tmpc @ares_cellc))))
variable {G : Nat → AV}
theorem keep_nil {a c d : List Int} {v v' : AV} (hn : c.map intA = a.map intA ++ d.map intA) (hz : a = [] → v = .nil) (he : v' ≠ .nil → v = .nil → a.map intA ++ d.map intA ≠ []) (h : c = []) : v' = .nil := by
 rw [h, List.map_nil] at hn
 have ha : a = [] := List.map_eq_nil_iff.1 (List.append_eq_nil_iff.1 hn.symm).1
 by_cases hv : v' = .nil
 ·exact hv
 ·exact absurd hn.symm (he hv (hz ha))
set_option maxHeartbeats 4000000 in
theorem reads2_tri (hg : GlobC G) (i : Ins) (hi : i.bulk ≤ 1000000) (σ : AS) : Tri Tryz.prog G 20 [i.enc] σ fun r σ' => WBuf 1 3 σ σ' r ((reads i).map intA) ∧ (reads i = [] → r = .nil) := by
 have ho := of_pure hg i.op
 have hfa := op_all (p := fun op => asciiF (shpOf op).fields) fields_ascii i.op
 unfold shpA at ho
 unfold reads
 generalize shpOf i.op = s at *
 obtain ⟨w, fs, nx⟩ := s
 simp only at ho hfa ⊢
 have hfl : fs.length ≤ 4 := by unfold asciiF at hfa; rw [Bool.and_eq_true, decide_eq_true_eq] at hfa; exact hfa.1
 have hsl : i.slots.length ≤ 1000000 := by unfold Ins.bulk at hi; omega
 clear hg hi
 refine Tri.of_awp mixed Tryz.func20 rfl (by kernel_rfl) (by kernel_rfl) (by simp [Tryz.ntmps20]) Tryz.results20 ?_
 repeat' (first | refine xs ?_ ?_ <;> intros | (refine wn ?_; intro bx hbx; try simp only [fb] at hbx) | refine wp ho ?_ | ((refine range_str tf9.2.1 (fun b hb => ?_))) | refine wj ?_ | simp -dsimp only [↓bp, bq, br, seval, tbCodB2, *] | refine wz ?_ | fail)
 have hle0 : σ.le (σ.setBox bx [.int .u8 i.opI, .int .i64 i.a, .int .i64 i.b, .int .i64 i.c, .int .i64 i.n, .int .i64 i.l, .str i.text, rowOf intA i.slots]) := (AS.le.refl σ).setBox hbx.1 _
 have hbx0 : (σ.setBox bx [.int .u8 i.opI, .int .i64 i.a, .int .i64 i.b, .int .i64 i.c, .int .i64 i.n, .int .i64 i.l, .str i.text, rowOf intA i.slots]).box bx = some [.int .u8 i.opI, .int .i64 i.a, .int .i64 i.b, .int .i64 i.c, .int .i64 i.n, .int .i64 i.l, .str i.text, rowOf intA i.slots] := AS.set_get
 generalize σ.setBox bx [.int .u8 i.opI, .int .i64 i.a, .int .i64 i.b, .int .i64 i.c, .int .i64 i.n, .int .i64 i.l, .str i.text, rowOf intA i.slots] = S at *
 refine loop_intro (fun n e σ' => ∃ (p : Nat) (v : AV), p ≤ fs.length ∧ n = fs.length - p ∧ e 3 = v ∧ WBuf 1 3 S σ' v ((readsF i (fs.take p)).map intA) ∧ σ'.ty b = some (.ob (.iter fs p), 0) ∧ (readsF i (fs.take p) = [] → v = .nil)) fs.length
  ⟨0, .nil, by omega, by omega, by first | (simp -dsimp only [↓bp, bq, br, seval, tbCodB2]; done) | (simp -dsimp only [↓bp, bq, br, seval, tbCodB2]; try rfl), wbuf_setTy (WBuf.nil (AS.le.refl _)) hb.2.2 _, by simp [AS.setTy], fun _ => rfl⟩ ?_
 rintro n e σ2 ⟨p, v, hp, rfl, h3, hB, hty, hz⟩
 simp -dsimp only [↓bp, bq, br, seval, tbCodB2] at h3
 have hb2 := hB.le.box _ _ hbx0
 have hle2 := hle0.trans hB.le
 have hBl : ((readsF i (fs.take p)).map intA).length ≤ 4 * 1000001 := by
  rw [List.length_map]
  have := readsF_len i (fs.take p)
  have h4 : (fs.take p).length ≤ 4 := by rw [List.length_take]; omega
  exact Nat.le_trans this (Nat.mul_le_mul h4 (by omega))
 by_cases hlt : p < fs.length
 ·obtain ⟨c, hc⟩ : ∃ c, fs[p]? = some c := ⟨_, List.getElem?_eq_getElem hlt⟩
  have hca := ascii_get hfa hc
  have hn := readsF_next i fs p c hc
  have hcases : (((c.toNat : Int) = 98) = True ∧ bySign i c = [i.b]) ∨ (((c.toNat : Int) = 98) = False ∧ ((c.toNat : Int) = 99) = True ∧ bySign i c = [i.c]) ∨ (((c.toNat : Int) = 98) = False ∧ ((c.toNat : Int) = 99) = False ∧ ((c.toNat : Int) = 115) = True ∧ bySign i c = i.slots) ∨
    (((c.toNat : Int) = 98) = False ∧ ((c.toNat : Int) = 99) = False ∧ ((c.toNat : Int) = 115) = False ∧ bySign i c = []) := by
   by_cases k1 : c = 98
   ·subst k1; exact .inl ⟨eq_true rfl, rfl⟩
   by_cases k2 : c = 99
   ·subst k2; exact .inr (.inl ⟨eq_false (by decide), eq_true rfl, rfl⟩)
   by_cases k3 : c = 115
   ·subst k3; exact .inr (.inr (.inl ⟨eq_false (by decide), eq_false (by decide), eq_true rfl, rfl⟩))
   ·refine .inr (.inr (.inr ⟨eq_false fun h => k1 (UInt8.toNat_inj.1 ?_), eq_false fun h => k2 (UInt8.toNat_inj.1 ?_), eq_false fun h => k3 (UInt8.toNat_inj.1 ?_), by unfold bySign; rw [if_neg k1, if_neg k2, if_neg k3]⟩)) <;> simp <;> omega
  have hB1 := wbuf_setTy hB hb.2.2 (.ob (.iter fs (p + 1)), 0)
  have hty1 : (σ2.setTy b (.ob (.iter fs (p + 1)), 0)).ty b = some (.ob (.iter fs (p + 1)), 0) := by simp [AS.setTy]
  have hb3 : (σ2.setTy b (.ob (.iter fs (p + 1)), 0)).box bx = some [.int .u8 i.opI, .int .i64 i.a, .int .i64 i.b, .int .i64 i.c, .int .i64 i.n, .int .i64 i.l, .str i.text, rowOf intA i.slots] := hb2
  clear hbx0 hle0 hfa ho
  rcases hcases with ⟨q1, q⟩ | ⟨q1, q2, q⟩ | ⟨q1, q2, q3, q⟩ | ⟨q1, q2, q3, q⟩
  ·rw [q] at hn
   clear q
   repeat' (first | refine xs ?_ ?_ <;> intros | (refine wn ?_; intro bx hbx; try simp only [fb] at hbx) | (refine next_more hty hc hca ?_) | ((refine app_wb (ys := [intA i.b]) hB1 tfI (asrc_sl tfIE) (ints_ok [i.b]) (by simp only [List.length_cons, List.length_nil]; omega) (fun v3 σ3 hA => ?_))) | refine wj ?_ | simp -dsimp only [↓bp, bq, br, seval, tbCodB2, *] | refine wz ?_ | fail)
   exact ⟨fs.length - (p + 1), by omega, p + 1, v3, by omega, rfl, rfl, by rw [hn]; exact hA.buf, by rw [hA.ty]; exact hty1, keep_nil hn hz hA.ne⟩
  ·rw [q] at hn
   clear q
   repeat' (first | refine xs ?_ ?_ <;> intros | (refine wn ?_; intro bx hbx; try simp only [fb] at hbx) | (refine next_more hty hc hca ?_) | ((refine app_wb (ys := [intA i.c]) hB1 tfI (asrc_sl tfIE) (ints_ok [i.c]) (by simp only [List.length_cons, List.length_nil]; omega) (fun v3 σ3 hA => ?_))) | refine wj ?_ | simp -dsimp only [↓bp, bq, br, seval, tbCodB2, *] | refine wz ?_ | fail)
   exact ⟨fs.length - (p + 1), by omega, p + 1, v3, by omega, rfl, rfl, by rw [hn]; exact hA.buf, by rw [hA.ty]; exact hty1, keep_nil hn hz hA.ne⟩
  ·rw [q] at hn
   clear q
   repeat' (first | refine xs ?_ ?_ <;> intros | (refine wn ?_; intro bx hbx; try simp only [fb] at hbx) | (refine next_more hty hc hca ?_) | ((refine app_wb (ys := i.slots.map intA) hB1 tfI (asrc_rowOf tfIE) (ints_ok i.slots) (by simp only [List.length_map] at hBl ⊢; omega) (fun v3 σ3 hA => ?_))) | refine wj ?_ | simp -dsimp only [↓bp, bq, br, seval, tbCodB2, *] | refine wz ?_ | fail)
   exact ⟨fs.length - (p + 1), by omega, p + 1, v3, by omega, rfl, rfl, by rw [hn]; exact hA.buf, by rw [hA.ty]; exact hty1, keep_nil hn hz hA.ne⟩
  ·rw [q] at hn
   clear q
   repeat' (first | refine xs ?_ ?_ <;> intros | (refine wn ?_; intro bx hbx; try simp only [fb] at hbx) | (refine next_more hty hc hca ?_) | refine wj ?_ | simp -dsimp only [↓bp, bq, br, seval, tbCodB2, *] | refine wz ?_ | fail)
   exact ⟨fs.length - (p + 1), by omega, p + 1, v, by omega, rfl, rfl, by rw [hn, List.map_nil, List.append_nil]; exact hB1, rfl, fun h => hz (by rw [h, List.map_nil, List.append_nil] at hn; exact List.map_eq_nil_iff.1 hn.symm)⟩
 ·have : p = fs.length := by omega
  subst this
  rw [List.take_length] at hB hz
  clear hbx0 hfa ho hBl
  repeat' (first | refine xs ?_ ?_ <;> intros | (refine wn ?_; intro bx hbx; try simp only [fb] at hbx) | (refine next_over hty (Nat.le_refl _) ?_) | refine wj ?_ | simp -dsimp only [↓bp, bq, br, seval, tbCodB2, *] | refine wz ?_ | fail)
  exact finishW_some _ (AS.le.refl _) ⟨wbuf_from hB hle0, hz⟩
theorem ints_cells (l : List Int) : (l.map intA).flatMap flat = l.map intA := by
 induction l with
 | nil => rfl
 | cons a l ih => rw [List.map_cons, List.flatMap_cons, ih]; rfl
theorem reads_nil (hg : GlobC G) (i : Ins) (hi : i.bulk ≤ 1000000) (h : reads i = []) : Pure Tryz.prog G 20 [i.enc] .nil := fun σ =>
 Tri.back (Q := fun r => r = .nil) ((reads2_tri hg i hi σ).mono fun r s hr => ⟨hr.2 h, hr.1.le⟩)
theorem reads_row (hg : GlobC G) (i : Ins) (hi : i.bulk ≤ 1000000) (h : reads i ≠ []) (σ : AS) : Tri Tryz.prog G 20 [i.enc] σ fun r σ' => MadeRow (reads i).length 1 3 ((reads i).map intA) σ r σ' :=
 (reads2_tri hg i hi σ).mono fun r s hr => by
   obtain ⟨b, e1, e2, e3, e4⟩ := hr.1.form (fun e => h (List.map_eq_nil_iff.1 e))
   rw [List.length_map] at e1
   refine ⟨b, e1, ?_, hr.1.le, e3, e4⟩
   rw [e2]
   exact congrArg some (ints_cells _)
end
end Go.Proofs.YtjmdaeabllkgnaaGreatDoor
