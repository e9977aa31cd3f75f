/- Code: the document's Next and Text: walked. -/
import Derived.Test.YtjmdaeabllkgnaaGreatDoorZ41
import Derived.Test.YtjmdaeabllkgnaaGreatDoorZ26
import Derived.Test.YtjmdaeabllkgnaaGreatDoorZ31
set_option linter.unusedVariables false
set_option linter.unusedSimpArgs false
set_option maxRecDepth 20000
set_option linter.defProp false
namespace Go.Proofs.YtjmdaeabllkgnaaGreatDoor
open Go Go.Av
def tbRCodB := And.intro (And.intro (And.intro (And.intro (And.intro @tf3 @tf4) (And.intro @tf5 @tf9)) (And.intro (And.intro @tf124 @tf37) (And.intro @tf39 @tf23))) (And.intro (And.intro (And.intro @tf30 @tf53) (And.intro @tf22 @tf26)) (And.intro (And.intro @tf24 @tf58) (And.intro @tf55 (And.intro @tf56 @tf169))))) (And.intro (And.intro (And.intro (And.intro @isv_rowOf @flat_rowOf) (And.intro @len_rowOf @ix_rowOf)) (And.intro (And.intro @isv_encs @flat_encs) (And.intro @len_encs (And.intro @Ins.flat_enc @Ins.isv_enc)))) (And.intro (And.intro (And.intro @Ins.fold_enc @Ent.flat_enc) (And.intro @Ent.isv_enc @Ent.fold_enc)) (And.intro (And.intro @Cod.flat_enc @Cod.isv_enc) (And.intro @Cod.fold_enc (And.intro @ares_tmpc @ares_cellc)))))
variable (G : Nat → AV)
structure Hd (p : Prop) : Prop where
 out : p
theorem rnum18_pure (n : Int) (hn : i64R n) : Pure Tryz.prog G 67 [.int .i64 n] (.str (itoa n)) := by
 have hp := rof_pure G n hn.1 hn.2
 have hq := rwtext_pure G (ofT n) (ofT_bulk hn.1 hn.2)
 rw [ofT_wr hn.1 hn.2, if_pos rfl, ofT_said] at hq
 clear hn
 intro σ
 refine Tri.of_awp mixed Tryz.func67 rfl (by kernel_rfl) (by kernel_rfl) (by simp [Tryz.ntmps67]) Tryz.results67 ?_
 repeat' (first | refine xs ?_ ?_ <;> intros | (refine wn ?_; intro bx hbx; try simp only [fb] at hbx) | refine wp hp ?_ | refine wp hq ?_ | refine wj ?_ | simp -dsimp only [↓bp, bq, br, seval, tbRCodB, *] | refine wz ?_ | fail)
 all_goals rfl
theorem atom_le (s : List UInt8) : Le (.agg [.int .u8 2, .bool false, .nil, .str s, .int .i64 0, .nil, .nil]) (atomTm s).enc := by
 rw [← Term.fold_enc]
 refine Le.agg (.cons (Le.refl _) (.cons (Le.refl _) (.cons Le.nil (.cons (Le.refl _) (.cons (Le.refl _) (.cons Le.nil (.cons Le.nil .nil))))))) ?_
 intro d hd
 simp only [List.mem_cons, List.not_mem_nil, or_false] at hd
 rcases hd with rfl | rfl | rfl | rfl | rfl | rfl | rfl <;> rfl
theorem rSlots_next (l : List Int) : ∀ (k j : Nat) (n : Int), l[j]? = some n → rSlots k (l.take (j + 1)) = rSlots k (l.take j) ++ ((if 0 < k + j then [32] else []) ++ (115 :: itoa n)) := by
 induction l with
 | nil => intro k j n h; simp at h
 | cons x l ih =>
  intro k j n h
  cases j with
  | zero => simp at h; subst h; simp [rSlots]
  | succ j =>
   have := ih (k + 1) j n (by simpa using h)
   rw [List.take_succ_cons, List.take_succ_cons]
   simp only [rSlots]
   rw [this]
   have e : k + 1 + j = k + (j + 1) := by omega
   rw [e]
   simp
theorem rSlots_len (l : List Int) (h : ∀ n, n ∈ l → (itoa n).length ≤ 31) : ∀ k, (rSlots k l).length ≤ 40 * l.length := by
 induction l with
 | nil => intro k; simp [rSlots]
 | cons n l ih =>
  intro k
  have h1 := ih (fun n hn => h n (List.mem_cons_of_mem _ hn)) (k + 1)
  have h2 := h n List.mem_cons_self
  simp only [rSlots, List.length_append, List.length_cons]
  split <;> simp only [List.length_cons, List.length_nil] <;> omega
theorem rW_len (op : UInt8) : (rW op).length ≤ 40 := by
 have := op_all (p := fun op => decide ((rW op).length ≤ 40)) (by decide +kernel) op
 simpa using this
set_option maxHeartbeats 16000000 in
theorem rtext18_pure (i : Ins) (hr : i.Rng) (hi : i.bulk ≤ 1000000) : Pure Tryz.prog G 27 [i.enc] (.str (textOf i)) := by
 rw [text_eq]
 unfold rText
 have hf : Pure Tryz.prog G 52 [.int .u8 i.opI] (.tup [.str (rW i.op), .str (rF i.op)]) := rfields_pure G i.op
 have h65 := rh_pure G i.op 65
 have h66 := rh_pure G i.op 66
 have h67 := rh_pure G i.op 67
 have h78 := rh_pure G i.op 78
 have h84 := rh_pure G i.op 84
 have h83 := rh_pure G i.op 83
 have h76 := rh_pure G i.op 76
 have na := rnum18_pure G i.a hr.a
 have nb := rnum18_pure G i.b hr.b
 have nc := rnum18_pure G i.c hr.c
 have nn := rnum18_pure G i.n hr.n
 have nl := rnum18_pure G i.l hr.l
 have la : (itoa i.a).length ≤ 31 := itoa_len4 i.a hr.a.1 hr.a.2
 have lb : (itoa i.b).length ≤ 31 := itoa_len4 i.b hr.b.1 hr.b.2
 have lc : (itoa i.c).length ≤ 31 := itoa_len4 i.c hr.c.1 hr.c.2
 have ln : (itoa i.n).length ≤ 31 := itoa_len4 i.n hr.n.1 hr.n.2
 have ll : (itoa i.l).length ≤ 31 := itoa_len4 i.l hr.l.1 hr.l.2
 have nt : Pure Tryz.prog G 68 [.agg [.int .u8 2, .bool false, .nil, .str i.text, .int .i64 0, .nil, .nil]] (.str (text (atomTm i.text))) := (rtermtext_pure G (atomTm i.text) (by unfold Ins.bulk at hi; simp only [atomTm, Term.bulk, bulks, List.length_nil]; omega)).lessArgs (.cons (atom_le i.text) .nil)
 have lt := textA_len i.text
 have ns : ∀ n, n ∈ i.slots → Pure Tryz.prog G 67 [.int .i64 n] (.str (itoa n)) := fun n hn => rnum18_pure G n (hr.slots n hn)
 have hsl : ∀ n, n ∈ i.slots → (itoa n).length ≤ 31 := fun n hn => itoa_len4 n (hr.slots n hn).1 (hr.slots n hn).2
 have hW0 := rW_len i.op
 have hn : i.text.length ≤ 1000000 ∧ i.slots.length ≤ 1000000 := by unfold Ins.bulk at hi; omega
 have he : i.enc = .agg [.int .u8 i.opI, .int .i64 i.a, .int .i64 i.b, .int .i64 i.c, .int .i64 i.n, .int .i64 i.l, .str i.text, rowOf intA i.slots] := rfl
 rw [he]
 clear he hi hr
 generalize rF i.op = F at *
 generalize rW i.op = W at *
 generalize rH i.op 65 = b65 at *
 generalize rH i.op 66 = b66 at *
 generalize rH i.op 67 = b67 at *
 generalize rH i.op 78 = b78 at *
 generalize rH i.op 84 = b84 at *
 generalize rH i.op 83 = b83 at *
 generalize rH i.op 76 = b76 at *
 generalize text (atomTm i.text) = TT at *
 intro σ
 by_cases hW : W = []
 ·rw [if_pos hW]
  have hW' := eq_true hW
  clear h65 h66 h67 h78 h84 h83 h76 na nb nc nn nl nt ns hsl
  refine Tri.of_awp mixed Tryz.func27 rfl (by kernel_rfl) (by kernel_rfl) (by simp [Tryz.ntmps27]) Tryz.results27 ?_
  repeat' (first | refine xs ?_ ?_ <;> intros | (refine wn ?_; intro bx hbx; try simp only [fb] at hbx) | refine wp hf ?_ | refine wj ?_ | simp -dsimp only [↓bp, bq, br, seval, tbRCodB, *] | refine wz ?_ | fail)
  all_goals rfl
 rw [if_neg hW]
 have hW' := eq_false hW
 have hmx := max_is
 refine Tri.of_awp mixed Tryz.func27 rfl (by kernel_rfl) (by kernel_rfl) (by simp [Tryz.ntmps27]) Tryz.results27 ?_
 simp -dsimp only [↓bp, bq, br, seval, tbRCodB]
 refine newW_intro ?_
 intro bx hbx
 obtain ⟨S, hS⟩ : ∃ S : AS, S = σ.setBox bx [.int .u8 i.opI, .int .i64 i.a, .int .i64 i.b, .int .i64 i.c, .int .i64 i.n, .int .i64 i.l, .str i.text, rowOf intA i.slots] := ⟨_, rfl⟩
 have hSb : S.box bx = some [.int .u8 i.opI, .int .i64 i.a, .int .i64 i.b, .int .i64 i.c, .int .i64 i.n, .int .i64 i.l, .str i.text, rowOf intA i.slots] := by rw [hS]; exact AS.set_get
 have hSl : σ.le S := by rw [hS]; exact (AS.le.refl σ).setBox hbx.1 _
 rw [← hS]
 clear hS
 repeat' (first | (refine wn ?_; intro bx hbx; try simp only [fb] at hbx) | refine wp hf ?_ | refine wp h65 ?_ | refine wj ?_ | simp -dsimp only [↓bp, bq, br, seval, tbRCodB, *] | refine wz ?_ | fail)
 obtain ⟨X1, hX1⟩ : ∃ X, Hd (X = W ++ (if b65 = true then nI 115 i.a else [])) := ⟨_, ⟨rfl⟩⟩
 have hL1 : X1.length ≤ 90 := by rw [hX1.out, List.length_append]; split <;> simp only [nI, List.length_cons, List.length_nil] <;> omega
 refine cond_meet mixed (fun e s => e 3 = .str X1 ∧ s = S) ?_ ?_
 ·have m1 : (W.length + 2 ≤ maxLen) = True := eq_true (by omega)
  have m2 : (W.length + 2 + (itoa i.a).length ≤ maxLen) = True := eq_true (by omega)
  clear hL1
  cases b65 with
  | true =>
   have hx := hX1.out
   rw [if_pos rfl] at hx
   repeat' (first | (refine wn ?_; intro bx hbx; try simp only [fb] at hbx) | refine wp na ?_ | refine wj ?_ | simp -dsimp only [↓bp, bq, br, seval, tbRCodB, List.length_append, *] | refine wz ?_ | fail)
   all_goals (try refine ⟨?_, rfl⟩)
   all_goals (first | rfl | (simp [nI]; done) | (simp [nI, hx, hX1.out]; done))
  | false =>
   have hx := hX1.out
   rw [if_neg (by simp), List.append_nil] at hx
   repeat' (first | (refine wn ?_; intro bx hbx; try simp only [fb] at hbx) | refine wp na ?_ | refine wj ?_ | simp -dsimp only [↓bp, bq, br, seval, tbRCodB, *] | refine wz ?_ | fail)
   all_goals (try refine ⟨?_, rfl⟩)
   all_goals (first | rfl | (simp [nI, hx, hX1.out]; done))
 rintro v1 S ⟨h3, rfl⟩
 simp -dsimp only [↓bp, bq, br, seval, tbRCodB] at h3
 repeat' (first | (refine wn ?_; intro bx hbx; try simp only [fb] at hbx) | refine wp h66 ?_ | refine wj ?_ | simp -dsimp only [↓bp, bq, br, seval, tbRCodB, *] | refine wz ?_ | fail)
 obtain ⟨X2, hX2⟩ : ∃ X, Hd (X = X1 ++ (if b66 = true then nI 115 i.b else [])) := ⟨_, ⟨rfl⟩⟩
 have hL2 : X2.length ≤ 140 := by rw [hX2.out, List.length_append]; split <;> simp only [nI, List.length_cons, List.length_nil] <;> omega
 refine cond_meet mixed (fun e s => e 3 = .str X2 ∧ s = S) ?_ ?_
 ·have m1 : (X1.length + 2 ≤ maxLen) = True := eq_true (by omega)
  have m2 : (X1.length + 2 + (itoa i.b).length ≤ maxLen) = True := eq_true (by omega)
  clear hL2
  cases b66 with
  | true =>
   have hx := hX2.out
   rw [if_pos rfl] at hx
   repeat' (first | (refine wn ?_; intro bx hbx; try simp only [fb] at hbx) | refine wp nb ?_ | refine wj ?_ | simp -dsimp only [↓bp, bq, br, seval, tbRCodB, List.length_append, *] | refine wz ?_ | fail)
   all_goals (try refine ⟨?_, rfl⟩)
   all_goals (first | rfl | (simp [nI]; done) | (simp [nI, hx, hX2.out]; done))
  | false =>
   have hx := hX2.out
   rw [if_neg (by simp), List.append_nil] at hx
   repeat' (first | (refine wn ?_; intro bx hbx; try simp only [fb] at hbx) | refine wp nb ?_ | refine wj ?_ | simp -dsimp only [↓bp, bq, br, seval, tbRCodB, *] | refine wz ?_ | fail)
   all_goals (try refine ⟨?_, rfl⟩)
   all_goals (first | rfl | (simp [nI, hx, hX2.out]; done))
 rintro v2 S ⟨h3, rfl⟩
 simp -dsimp only [↓bp, bq, br, seval, tbRCodB] at h3
 repeat' (first | (refine wn ?_; intro bx hbx; try simp only [fb] at hbx) | refine wp h67 ?_ | refine wj ?_ | simp -dsimp only [↓bp, bq, br, seval, tbRCodB, *] | refine wz ?_ | fail)
 obtain ⟨X3, hX3⟩ : ∃ X, Hd (X = X2 ++ (if b67 = true then nI 115 i.c else [])) := ⟨_, ⟨rfl⟩⟩
 have hL3 : X3.length ≤ 190 := by rw [hX3.out, List.length_append]; split <;> simp only [nI, List.length_cons, List.length_nil] <;> omega
 refine cond_meet mixed (fun e s => e 3 = .str X3 ∧ s = S) ?_ ?_
 ·have m1 : (X2.length + 2 ≤ maxLen) = True := eq_true (by omega)
  have m2 : (X2.length + 2 + (itoa i.c).length ≤ maxLen) = True := eq_true (by omega)
  clear hL3
  cases b67 with
  | true =>
   have hx := hX3.out
   rw [if_pos rfl] at hx
   repeat' (first | (refine wn ?_; intro bx hbx; try simp only [fb] at hbx) | refine wp nc ?_ | refine wj ?_ | simp -dsimp only [↓bp, bq, br, seval, tbRCodB, List.length_append, *] | refine wz ?_ | fail)
   all_goals (try refine ⟨?_, rfl⟩)
   all_goals (first | rfl | (simp [nI]; done) | (simp [nI, hx, hX3.out]; done))
  | false =>
   have hx := hX3.out
   rw [if_neg (by simp), List.append_nil] at hx
   repeat' (first | (refine wn ?_; intro bx hbx; try simp only [fb] at hbx) | refine wp nc ?_ | refine wj ?_ | simp -dsimp only [↓bp, bq, br, seval, tbRCodB, *] | refine wz ?_ | fail)
   all_goals (try refine ⟨?_, rfl⟩)
   all_goals (first | rfl | (simp [nI, hx, hX3.out]; done))
 rintro v3 S ⟨h3, rfl⟩
 simp -dsimp only [↓bp, bq, br, seval, tbRCodB] at h3
 repeat' (first | (refine wn ?_; intro bx hbx; try simp only [fb] at hbx) | refine wp h78 ?_ | refine wj ?_ | simp -dsimp only [↓bp, bq, br, seval, tbRCodB, *] | refine wz ?_ | fail)
 obtain ⟨X4, hX4⟩ : ∃ X, Hd (X = X3 ++ (if b78 = true then nI 35 i.n else [])) := ⟨_, ⟨rfl⟩⟩
 have hL4 : X4.length ≤ 240 := by rw [hX4.out, List.length_append]; split <;> simp only [nI, List.length_cons, List.length_nil] <;> omega
 refine cond_meet mixed (fun e s => e 3 = .str X4 ∧ s = S) ?_ ?_
 ·have m1 : (X3.length + 2 ≤ maxLen) = True := eq_true (by omega)
  have m2 : (X3.length + 2 + (itoa i.n).length ≤ maxLen) = True := eq_true (by omega)
  clear hL4
  cases b78 with
  | true =>
   have hx := hX4.out
   rw [if_pos rfl] at hx
   repeat' (first | (refine wn ?_; intro bx hbx; try simp only [fb] at hbx) | refine wp nn ?_ | refine wj ?_ | simp -dsimp only [↓bp, bq, br, seval, tbRCodB, List.length_append, *] | refine wz ?_ | fail)
   all_goals (try refine ⟨?_, rfl⟩)
   all_goals (first | rfl | (simp [nI]; done) | (simp [nI, hx, hX4.out]; done))
  | false =>
   have hx := hX4.out
   rw [if_neg (by simp), List.append_nil] at hx
   repeat' (first | (refine wn ?_; intro bx hbx; try simp only [fb] at hbx) | refine wp nn ?_ | refine wj ?_ | simp -dsimp only [↓bp, bq, br, seval, tbRCodB, *] | refine wz ?_ | fail)
   all_goals (try refine ⟨?_, rfl⟩)
   all_goals (first | rfl | (simp [nI, hx, hX4.out]; done))
 rintro v4 S ⟨h3, rfl⟩
 simp -dsimp only [↓bp, bq, br, seval, tbRCodB] at h3
 repeat' (first | (refine wn ?_; intro bx hbx; try simp only [fb] at hbx) | refine wp h84 ?_ | refine wj ?_ | simp -dsimp only [↓bp, bq, br, seval, tbRCodB, *] | refine wz ?_ | fail)
 obtain ⟨X5, hX5⟩ : ∃ X, Hd (X = X4 ++ (if b84 = true then 32 :: TT else [])) := ⟨_, ⟨rfl⟩⟩
 have hL5 : X5.length ≤ 500000240 := by rw [hX5.out, List.length_append]; split <;> simp only [nI, List.length_cons, List.length_nil] <;> omega
 refine cond_meet mixed (fun e s => e 3 = .str X5 ∧ s = S) ?_ ?_
 ·have m1 : (X4.length + 1 ≤ maxLen) = True := eq_true (by omega)
  have m2 : (X4.length + 1 + TT.length ≤ maxLen) = True := eq_true (by omega)
  clear hL5
  cases b84 with
  | true =>
   have hx := hX5.out
   rw [if_pos rfl] at hx
   repeat' (first | (refine wn ?_; intro bx hbx; try simp only [fb] at hbx) | refine wp nt ?_ | refine wj ?_ | simp -dsimp only [↓bp, bq, br, seval, tbRCodB, List.length_append, *] | refine wz ?_ | fail)
   all_goals (try refine ⟨?_, rfl⟩)
   all_goals (first | rfl | (simp [nI]; done) | (simp [nI, hx, hX5.out]; done))
  | false =>
   have hx := hX5.out
   rw [if_neg (by simp), List.append_nil] at hx
   repeat' (first | (refine wn ?_; intro bx hbx; try simp only [fb] at hbx) | refine wp nt ?_ | refine wj ?_ | simp -dsimp only [↓bp, bq, br, seval, tbRCodB, *] | refine wz ?_ | fail)
   all_goals (try refine ⟨?_, rfl⟩)
   all_goals (first | rfl | (simp [nI, hx, hX5.out]; done))
 rintro v5 S ⟨h3, rfl⟩
 simp -dsimp only [↓bp, bq, br, seval, tbRCodB] at h3
 repeat' (first | (refine wn ?_; intro bx hbx; try simp only [fb] at hbx) | refine wp h83 ?_ | refine wj ?_ | simp -dsimp only [↓bp, bq, br, seval, tbRCodB, *] | refine wz ?_ | fail)
 obtain ⟨X6, hX6⟩ : ∃ X, Hd (X = X5 ++ (if b83 = true then [32, 40] ++ (rSlots 0 i.slots ++ [41]) else [])) := ⟨_, ⟨rfl⟩⟩
 have hsL := rSlots_len i.slots hsl 0
 have hL6 : X6.length ≤ 550000240 := by rw [hX6.out, List.length_append]; split <;> simp only [List.length_append, List.length_cons, List.length_nil] <;> omega
 refine cond_meet mixed (fun e s => e 3 = .str X6 ∧ s = S) ?_ ?_
 ·cases b83 with
  | false =>
   have hx := hX6.out
   rw [if_neg (by simp), List.append_nil] at hx
   repeat' (first | (refine wn ?_; intro bx hbx; try simp only [fb] at hbx) | refine wj ?_ | simp -dsimp only [↓bp, bq, br, seval, tbRCodB, *] | refine wz ?_ | fail)
   all_goals (try refine ⟨?_, rfl⟩)
   all_goals (first | rfl | (simp [hx]; done))
  | true =>
   have hx := hX6.out
   rw [if_pos rfl] at hx
   replace hx := Hd.mk hx
   have m1 : (X5.length + 2 ≤ maxLen) = True := eq_true (by omega)
   repeat' (first | (refine wn ?_; intro bx hbx; try simp only [fb] at hbx) | refine wj ?_ | simp -dsimp only [↓bp, bq, br, seval, tbRCodB, *] | refine wz ?_ | fail)
   refine loop_keep mixed (fun n e => ∃ j : Nat, j ≤ i.slots.length ∧ n = i.slots.length - j ∧ e 5 = .int .i64 j ∧ e 3 = .str (X5 ++ [32, 40] ++ rSlots 0 (i.slots.take j))) i.slots.length
    ⟨0, by omega, by omega, by first | (simp -dsimp only [↓bp, bq, br, seval, tbRCodB]; done) | (simp -dsimp only [↓bp, bq, br, seval, tbRCodB]; try rfl), by first | (simp -dsimp only [↓bp, bq, br, seval, tbRCodB]; done) | (simp -dsimp only [↓bp, bq, br, seval, tbRCodB]; simp [rSlots])⟩ ?_
   rintro n v ⟨j, hj, rfl, h5, h3⟩
   simp -dsimp only [↓bp, bq, br, seval, tbRCodB] at h5 h3
   by_cases hlt : j < i.slots.length
   ·have hlt' : ((j : Int) < i.slots.length) = True := eq_true (by omega)
    obtain ⟨x, hx⟩ : ∃ x, i.slots[j]? = some x := ⟨_, List.getElem?_eq_getElem hlt⟩
    have hnx := ns x (List.mem_of_getElem? hx)
    have hlx := hsl x (List.mem_of_getElem? hx)
    have hpl : (rSlots 0 (i.slots.take j)).length ≤ 40 * i.slots.length := by
     have h1 := rSlots_len (i.slots.take j) (fun n hn => hsl n (List.mem_of_mem_take hn)) 0
     have h2 : (i.slots.take j).length ≤ i.slots.length := by rw [List.length_take]; omega
     omega
    have hst := rSlots_next i.slots 0 j x hx
    have hwj : IntKind.i64.wrap ((j : Int) + 1) = ((j + 1 : Nat) : Int) := by rw [wrap_nat (by omega) (by omega)]; rfl
    obtain ⟨Y, hY⟩ : ∃ Y, Hd (Y = X5 ++ [32, 40] ++ rSlots 0 (i.slots.take j)) := ⟨_, ⟨rfl⟩⟩
    have hYl : Y.length ≤ 550000240 := by rw [hY.out, List.length_append, List.length_append]; simp only [List.length_cons, List.length_nil]; omega
    rw [← hY.out] at h3
    by_cases h0 : j = 0
    ·have h0' : ((0 : Int) < (j : Int)) = False := eq_false (by omega)
     have k1 : (Y.length + 1 ≤ maxLen) = True := eq_true (by omega)
     have k2 : (Y.length + 1 + (itoa x).length ≤ maxLen) = True := eq_true (by omega)
     rw [if_neg (by omega)] at hst
     replace hst := Hd.mk hst
     clear ns hsl h0
     repeat' (first | (refine wn ?_; intro bx hbx; try simp only [fb] at hbx) | refine wp hnx ?_ | refine wj ?_ | simp -dsimp only [↓bp, bq, br, seval, tbRCodB, List.length_append, intA, *] | refine wz ?_ | fail)
     exact ⟨i.slots.length - (j + 1), by omega, j + 1, by omega, rfl, rfl, by rw [hst.out, hY.out]; simp⟩
    ·have h0' : ((0 : Int) < (j : Int)) = True := eq_true (by omega)
     have k0 : (Y.length + 1 ≤ maxLen) = True := eq_true (by omega)
     have k1 : (Y.length + 1 + 1 ≤ maxLen) = True := eq_true (by omega)
     have k2 : (Y.length + 1 + 1 + (itoa x).length ≤ maxLen) = True := eq_true (by omega)
     rw [if_pos (by omega)] at hst
     replace hst := Hd.mk hst
     clear ns hsl h0
     repeat' (first | (refine wn ?_; intro bx hbx; try simp only [fb] at hbx) | refine wp hnx ?_ | refine wj ?_ | simp -dsimp only [↓bp, bq, br, seval, tbRCodB, List.length_append, intA, *] | refine wz ?_ | fail)
     exact ⟨i.slots.length - (j + 1), by omega, j + 1, by omega, rfl, rfl, by rw [hst.out, hY.out]; simp⟩
   ·have : j = i.slots.length := by omega
    subst this
    have hlt' : ((i.slots.length : Int) < i.slots.length) = False := eq_false (by omega)
    rw [List.take_length] at h3
    obtain ⟨Y, hY⟩ : ∃ Y, Hd (Y = X5 ++ [32, 40] ++ rSlots 0 i.slots) := ⟨_, ⟨rfl⟩⟩
    have hYl : Y.length ≤ 550000240 := by rw [hY.out, List.length_append, List.length_append]; simp only [List.length_cons, List.length_nil]; omega
    rw [← hY.out] at h3
    have k1 : (Y.length + 1 ≤ maxLen) = True := eq_true (by omega)
    clear ns hsl
    repeat' (first | (refine wn ?_; intro bx hbx; try simp only [fb] at hbx) | refine wj ?_ | simp -dsimp only [↓bp, bq, br, seval, tbRCodB, *] | refine wz ?_ | fail)
    all_goals (try refine ⟨?_, rfl⟩)
    all_goals (first | (simp [hx.out, hY.out]; done) | (rw [hx.out, hY.out]; simp; done))
 rintro v6 S ⟨h3, rfl⟩
 simp -dsimp only [↓bp, bq, br, seval, tbRCodB] at h3
 repeat' (first | (refine wn ?_; intro bx hbx; try simp only [fb] at hbx) | refine wp h76 ?_ | refine wj ?_ | simp -dsimp only [↓bp, bq, br, seval, tbRCodB, *] | refine wz ?_ | fail)
 have m1 : (X6.length + 2 ≤ maxLen) = True := eq_true (by omega)
 have m2 : (X6.length + 2 + (itoa i.l).length ≤ maxLen) = True := eq_true (by omega)
 cases b76 with
 | true =>
  repeat' (first | (refine wn ?_; intro bx hbx; try simp only [fb] at hbx) | refine wp nl ?_ | refine wj ?_ | simp -dsimp only [↓bp, bq, br, seval, tbRCodB, List.length_append, *] | refine wz ?_ | fail)
  all_goals (first | (simp [nI, hX6.out, hX5.out, hX4.out, hX3.out, hX2.out, hX1.out]; done) | (rw [hX6.out, hX5.out, hX4.out, hX3.out, hX2.out, hX1.out]; simp [nI]))
 | false =>
  repeat' (first | (refine wn ?_; intro bx hbx; try simp only [fb] at hbx) | refine wp nl ?_ | refine wj ?_ | simp -dsimp only [↓bp, bq, br, seval, tbRCodB, *] | refine wz ?_ | fail)
  all_goals (first | (simp [hX6.out, hX5.out, hX4.out, hX3.out, hX2.out, hX1.out]; done) | (rw [hX6.out, hX5.out, hX4.out, hX3.out, hX2.out, hX1.out]; simp))
end Go.Proofs.YtjmdaeabllkgnaaGreatDoor
