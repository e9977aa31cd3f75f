/- Code: which instructions are right: the program's way. -/
import Derived.Test.YtjmdaeabllkgnaaGreatDoorY23
import Derived.Test.YtjmdaeabllkgnaaGreatDoorY21
import Derived.Test.YtjmdaeabllkgnaaGreatDoorY16
set_option linter.unusedVariables false
set_option linter.unusedSimpArgs false
set_option maxRecDepth 20000
set_option linter.defProp false
namespace Go.Proofs.YtjmdaeabllkgnaaGreatDoor
open Go Go.Av
section
def tbCodC := And.intro (And.intro (And.intro (And.intro (And.intro @tf3 @tf4) (And.intro @tf5 @tf9)) (And.intro (And.intro @tf37 @tf39) (And.intro @tf23 @tf30))) (And.intro (And.intro (And.intro @tf66 @tf21) (And.intro @tf53 @tf22)) (And.intro (And.intro @tf26 @tf24) (And.intro @tf74 (And.intro @tf120 @isv_rowOf))))) (And.intro (And.intro (And.intro (And.intro @flat_rowOf @len_rowOf) (And.intro @ix_rowOf @isv_encs)) (And.intro (And.intro @flat_encs @len_encs) (And.intro @Ins.flat_enc @Ins.isv_enc))) (And.intro (And.intro (And.intro @Ins.fold_enc @Ent.flat_enc) (And.intro @Ent.isv_enc @Ent.fold_enc)) (And.intro (And.intro @Cod.flat_enc @Cod.isv_enc) (And.intro @Cod.fold_enc (And.intro @ares_tmpc @ares_cellc)))))
variable {G : Nat -> AV}
def chkC (c : Cod) (e : Ent) (b z : Int) : List AV := [rowOf Ent.enc c.entries, rowOf Ins.enc c.instrs, encs c.consts, .str e.name, .int .i64 e.arity, .int .i64 e.extra, .int .i64 e.slots, .int .i64 e.pos, .int .i64 b, .int .i64 z]
theorem opF (i : Ins) {k : Nat} (hk : k < 256) : (i.opI = (k : Int)) = (i.op = UInt8.ofNat k) := propext ⟨fun h => UInt8.toNat_inj.1 (by rw [UInt8.toNat_ofNat']; unfold Ins.opI at h; omega), fun h => by unfold Ins.opI; rw [h, UInt8.toNat_ofNat']; omega⟩
theorem slot_pc {c : Cod} {e : Ent} {b z : Int} {σ0 : AS} {bx : Nat} (hb : σ0.box bx = some (chkC c e b z)) (n : Int) : PureC Tryz.prog G 83 [.int .i64 n, .ptr bx 0] σ0 (.bool (slotOK e n)) := by
 intro σ hσ
 have hb' := hσ.box _ _ hb
 unfold chkC at hb'
 clear hb
 refine Tri.of_awp mixed Tryz.func83 rfl (by kernel_rfl) (by kernel_rfl) (by simp [Tryz.ntmps83]) Tryz.results83 ?_
 repeat' (first | refine xs ?_ ?_ <;> intros | (refine wn ?_; intro bx hbx; try simp only [fb] at hbx) | refine wj ?_ | simp -dsimp only [↓bp, bq, br, seval, tbCodC, *] | refine wz ?_ | fail)
 all_goals (first | (simp only [slotOK, *, Bool.and_true, Bool.true_and, Bool.and_false, Bool.false_and, Bool.or_true, Bool.true_or, Bool.or_false, Bool.false_or, Bool.not_true, Bool.not_false, if_true, if_false, Bool.and_self, Bool.or_self]; done) | (simp [slotOK, *]; done) | (simp_all [slotOK]; done))
theorem num_pc {i : Ins} {σ0 : AS} {bx : Nat} (hb : σ0.box bx = some (flat i.enc)) (n : Int) : PureC Tryz.prog G 84 [.int .i64 n, .ptr bx 0] σ0 (.bool (numOK i.op n)) := by
 intro σ hσ
 have hb' := hσ.box _ _ hb
 rw [Ins.flat_enc] at hb'
 have h13 := opF i (k := 13) (by omega)
 have h17 := opF i (k := 17) (by omega)
 unfold numOK
 clear hb
 by_cases k1 : i.op = 13
 ·rw [if_pos k1]
  have h13 : (i.opI = 13) = True := by rw [show (13 : Int) = ((13 : Nat) : Int) from rfl, h13]; exact eq_true k1
  clear h17 k1
  refine Tri.of_awp mixed Tryz.func84 rfl (by kernel_rfl) (by kernel_rfl) (by simp [Tryz.ntmps84]) Tryz.results84 ?_
  repeat' (first | refine xs ?_ ?_ <;> intros | (refine wn ?_; intro bx hbx; try simp only [fb] at hbx) | refine wj ?_ | simp -dsimp only [↓bp, bq, br, seval, tbCodC, *] | refine wz ?_ | fail)
  all_goals (first | (simp only [numOK, *, Bool.and_true, Bool.true_and, Bool.and_false, Bool.false_and, Bool.or_true, Bool.true_or, Bool.or_false, Bool.false_or, Bool.not_true, Bool.not_false, if_true, if_false, Bool.and_self, Bool.or_self]; done) | (simp [numOK, *]; done) | (simp_all [numOK]; done))
 rw [if_neg k1]
 have h13 : (i.opI = 13) = False := by rw [show (13 : Int) = ((13 : Nat) : Int) from rfl, h13]; exact eq_false k1
 by_cases k2 : i.op = 17
 ·rw [if_pos k2]
  have h17 : (i.opI = 17) = True := by rw [show (17 : Int) = ((17 : Nat) : Int) from rfl, h17]; exact eq_true k2
  clear k1 k2
  refine Tri.of_awp mixed Tryz.func84 rfl (by kernel_rfl) (by kernel_rfl) (by simp [Tryz.ntmps84]) Tryz.results84 ?_
  repeat' (first | refine xs ?_ ?_ <;> intros | (refine wn ?_; intro bx hbx; try simp only [fb] at hbx) | refine wj ?_ | simp -dsimp only [↓bp, bq, br, seval, tbCodC, *] | refine wz ?_ | fail)
  all_goals (first | (simp only [numOK, *, Bool.and_true, Bool.true_and, Bool.and_false, Bool.false_and, Bool.or_true, Bool.true_or, Bool.or_false, Bool.false_or, Bool.not_true, Bool.not_false, if_true, if_false, Bool.and_self, Bool.or_self]; done) | (simp [numOK, *]; done) | (simp_all [numOK]; done))
 ·rw [if_neg k2]
  have h17 : (i.opI = 17) = False := by rw [show (17 : Int) = ((17 : Nat) : Int) from rfl, h17]; exact eq_false k2
  clear k1 k2
  refine Tri.of_awp mixed Tryz.func84 rfl (by kernel_rfl) (by kernel_rfl) (by simp [Tryz.ntmps84]) Tryz.results84 ?_
  repeat' (first | refine xs ?_ ?_ <;> intros | (refine wn ?_; intro bx hbx; try simp only [fb] at hbx) | refine wj ?_ | simp -dsimp only [↓bp, bq, br, seval, tbCodC, *] | refine wz ?_ | fail)
  all_goals (first | (simp only [numOK, *, Bool.and_true, Bool.true_and, Bool.and_false, Bool.false_and, Bool.or_true, Bool.true_or, Bool.or_false, Bool.false_or, Bool.not_true, Bool.not_false, if_true, if_false, Bool.and_self, Bool.or_self]; done) | (simp [numOK, *]; done) | (simp_all [numOK]; done))
theorem noslot_pc {c : Cod} {e : Ent} {b z : Int} {σ0 : AS} {bx bs : Nat} (hb : σ0.box bx = some (chkC c e b z)) (hs : σ0.box bs = some [.fn 83 [.ptr bx 0]]) (n : Int) : PureC Tryz.prog G 88 [intA n, .ptr bs 0] σ0 (.bool (!slotOK e n)) := by
 intro σ hσ
 have hs' := hσ.box _ _ hs
 have hp := (slot_pc (G := G) hb n)
 unfold intA
 generalize slotOK e n = r at *
 clear hb hs
 refine Tri.of_awp mixed Tryz.func88 rfl (by kernel_rfl) (by kernel_rfl) (by simp [Tryz.ntmps88]) Tryz.results88 ?_
 repeat' (first | refine xs ?_ ?_ <;> intros | (refine wn ?_; intro bx hbx; try simp only [fb] at hbx) | refine PureC.use (hp) (by repeat' first | exact lr _ | assumption | refine ls ?_ ?_ | refine lt ?_ ?_ | simp only [*]; done | simp only [fb, *, not_false_eq_true, and_self]; done | exact lf ‹_› (by simp only [*])) ?_ | refine wj ?_ | simp -dsimp only [↓bp, bq, br, seval, tbCodC, *] | refine wz ?_ | fail)
 all_goals rfl
theorem fun_pure (c : Cod) (e : Ent) (b z : Int) (i : Ins) (hc : c.bulk <= 1000000000) : Pure Tryz.prog G 85 [.agg (chkC c e b z), i.enc] (.bool (funOK c i)) := by
 have hl : c.entries.length <= 1000000000 := by have := len_bulkL Ent.bulk_pos c.entries; unfold Cod.bulk at hc; omega
 unfold funOK chkC
 clear hc
 by_cases h0 : 0 <= i.n
 ·obtain ⟨n, hn⟩ := Int.eq_ofNat_of_zero_le h0
  rw [if_pos h0]
  have hneg : (i.n < 0) = False := eq_false (by omega)
  rw [hn] at hneg ⊢
  rw [Int.toNat_natCast]
  cases hx : c.entries[n]? with
  | none =>
   have hge : ((c.entries.length : Int) <= (n : Int)) = True := eq_true (by have := List.getElem?_eq_none_iff.1 hx; omega)
   clear h0 hl
   intro σ
   refine Tri.of_awp mixed Tryz.func85 rfl (by kernel_rfl) (by kernel_rfl) (by simp [Tryz.ntmps85]) Tryz.results85 ?_
   repeat' (first | refine xs ?_ ?_ <;> intros | (refine wn ?_; intro bx hbx; try simp only [fb] at hbx) | refine wj ?_ | simp -dsimp only [↓bp, bq, br, seval, tbCodC, *] | refine wz ?_ | fail)
   all_goals rfl
  | some x =>
   have hge : ((c.entries.length : Int) <= (n : Int)) = False := eq_false (by have := (List.getElem?_eq_some_iff.1 hx).1; omega)
   have h5 := opF i (k := 5) (by omega)
   simp only
   by_cases k5 : i.op = 5
   ·have h5 : (i.opI = 5) = True := by rw [show (5 : Int) = ((5 : Nat) : Int) from rfl, h5]; exact eq_true k5
    rw [if_pos k5]
    clear h0 hl k5
    intro σ
    refine Tri.of_awp mixed Tryz.func85 rfl (by kernel_rfl) (by kernel_rfl) (by simp [Tryz.ntmps85]) Tryz.results85 ?_
    repeat' (first | refine xs ?_ ?_ <;> intros | (refine wn ?_; intro bx hbx; try simp only [fb] at hbx) | refine wj ?_ | simp -dsimp only [↓bp, bq, br, seval, tbCodC, *] | refine wz ?_ | fail)
    all_goals rfl
   ·have h5 : (i.opI = 5) = False := by rw [show (5 : Int) = ((5 : Nat) : Int) from rfl, h5]; exact eq_false k5
    rw [if_neg k5]
    clear h0 hl k5
    intro σ
    refine Tri.of_awp mixed Tryz.func85 rfl (by kernel_rfl) (by kernel_rfl) (by simp [Tryz.ntmps85]) Tryz.results85 ?_
    repeat' (first | refine xs ?_ ?_ <;> intros | (refine wn ?_; intro bx hbx; try simp only [fb] at hbx) | refine wj ?_ | simp -dsimp only [↓bp, bq, br, seval, tbCodC, *] | refine wz ?_ | fail)
    all_goals (first | (simp only [decide_true, decide_false, *, Bool.and_true, Bool.true_and, Bool.and_false, Bool.false_and, Bool.or_true, Bool.true_or, Bool.or_false, Bool.false_or, Bool.not_true, Bool.not_false, if_true, if_false, Bool.and_self, Bool.or_self]; done) | (simp [decide_true, decide_false, *]; done) | (simp_all [decide_true, decide_false]; done))
 ·have hneg : (i.n < 0) = True := eq_true (by omega)
  rw [if_neg h0]
  clear h0 hl
  intro σ
  refine Tri.of_awp mixed Tryz.func85 rfl (by kernel_rfl) (by kernel_rfl) (by simp [Tryz.ntmps85]) Tryz.results85 ?_
  repeat' (first | refine xs ?_ ?_ <;> intros | (refine wn ?_; intro bx hbx; try simp only [fb] at hbx) | refine wj ?_ | simp -dsimp only [↓bp, bq, br, seval, tbCodC, *] | refine wz ?_ | fail)
  all_goals rfl
def bareP (i : Ins) (l : List UInt8) : List AV := [.int .u8 i.opI, .int .i64 (if 97 ∈ l then i.a else 0), .int .i64 (if 98 ∈ l then i.b else 0), .int .i64 (if 99 ∈ l then i.c else 0), .int .i64 (if 107 ∈ l \/ 102 ∈ l \/ 110 ∈ l then i.n else 0), .int .i64 (if 108 ∈ l then i.l else 0), .str (if 116 ∈ l then i.text else []), if 115 ∈ l then rowOf intA i.slots else .nil]
theorem bareP_nil (i : Ins) : bareP i [] = [.int .u8 i.opI, .int .i64 0, .int .i64 0, .int .i64 0, .int .i64 0, .int .i64 0, .str [], .nil] := by simp [bareP]
theorem bareP_97 (i : Ins) (l : List UInt8) (A B C N L : Int) (T : List UInt8) (W : AV) (h : bareP i l = [.int .u8 i.opI, .int .i64 A, .int .i64 B, .int .i64 C, .int .i64 N, .int .i64 L, .str T, W]) : bareP i (l ++ [97]) = [.int .u8 i.opI, .int .i64 i.a, .int .i64 B, .int .i64 C, .int .i64 N, .int .i64 L, .str T, W] := by
 simp only [bareP, List.cons.injEq, AV.int.injEq, AV.str.injEq, true_and, and_true] at h
 obtain ⟨h1, h2, h3, h4, h5, h6, h7⟩ := h
 simp [bareP, List.mem_append, h1, h2, h3, h4, h5, h6, h7]
theorem bareP_98 (i : Ins) (l : List UInt8) (A B C N L : Int) (T : List UInt8) (W : AV) (h : bareP i l = [.int .u8 i.opI, .int .i64 A, .int .i64 B, .int .i64 C, .int .i64 N, .int .i64 L, .str T, W]) : bareP i (l ++ [98]) = [.int .u8 i.opI, .int .i64 A, .int .i64 i.b, .int .i64 C, .int .i64 N, .int .i64 L, .str T, W] := by
 simp only [bareP, List.cons.injEq, AV.int.injEq, AV.str.injEq, true_and, and_true] at h
 obtain ⟨h1, h2, h3, h4, h5, h6, h7⟩ := h
 simp [bareP, List.mem_append, h1, h2, h3, h4, h5, h6, h7]
theorem bareP_99 (i : Ins) (l : List UInt8) (A B C N L : Int) (T : List UInt8) (W : AV) (h : bareP i l = [.int .u8 i.opI, .int .i64 A, .int .i64 B, .int .i64 C, .int .i64 N, .int .i64 L, .str T, W]) : bareP i (l ++ [99]) = [.int .u8 i.opI, .int .i64 A, .int .i64 B, .int .i64 i.c, .int .i64 N, .int .i64 L, .str T, W] := by
 simp only [bareP, List.cons.injEq, AV.int.injEq, AV.str.injEq, true_and, and_true] at h
 obtain ⟨h1, h2, h3, h4, h5, h6, h7⟩ := h
 simp [bareP, List.mem_append, h1, h2, h3, h4, h5, h6, h7]
theorem bareP_107 (i : Ins) (l : List UInt8) (A B C N L : Int) (T : List UInt8) (W : AV) (h : bareP i l = [.int .u8 i.opI, .int .i64 A, .int .i64 B, .int .i64 C, .int .i64 N, .int .i64 L, .str T, W]) : bareP i (l ++ [107]) = [.int .u8 i.opI, .int .i64 A, .int .i64 B, .int .i64 C, .int .i64 i.n, .int .i64 L, .str T, W] := by
 simp only [bareP, List.cons.injEq, AV.int.injEq, AV.str.injEq, true_and, and_true] at h
 obtain ⟨h1, h2, h3, h4, h5, h6, h7⟩ := h
 simp [bareP, List.mem_append, h1, h2, h3, h4, h5, h6, h7]
theorem bareP_102 (i : Ins) (l : List UInt8) (A B C N L : Int) (T : List UInt8) (W : AV) (h : bareP i l = [.int .u8 i.opI, .int .i64 A, .int .i64 B, .int .i64 C, .int .i64 N, .int .i64 L, .str T, W]) : bareP i (l ++ [102]) = [.int .u8 i.opI, .int .i64 A, .int .i64 B, .int .i64 C, .int .i64 i.n, .int .i64 L, .str T, W] := by
 simp only [bareP, List.cons.injEq, AV.int.injEq, AV.str.injEq, true_and, and_true] at h
 obtain ⟨h1, h2, h3, h4, h5, h6, h7⟩ := h
 simp [bareP, List.mem_append, h1, h2, h3, h4, h5, h6, h7]
theorem bareP_110 (i : Ins) (l : List UInt8) (A B C N L : Int) (T : List UInt8) (W : AV) (h : bareP i l = [.int .u8 i.opI, .int .i64 A, .int .i64 B, .int .i64 C, .int .i64 N, .int .i64 L, .str T, W]) : bareP i (l ++ [110]) = [.int .u8 i.opI, .int .i64 A, .int .i64 B, .int .i64 C, .int .i64 i.n, .int .i64 L, .str T, W] := by
 simp only [bareP, List.cons.injEq, AV.int.injEq, AV.str.injEq, true_and, and_true] at h
 obtain ⟨h1, h2, h3, h4, h5, h6, h7⟩ := h
 simp [bareP, List.mem_append, h1, h2, h3, h4, h5, h6, h7]
theorem bareP_116 (i : Ins) (l : List UInt8) (A B C N L : Int) (T : List UInt8) (W : AV) (h : bareP i l = [.int .u8 i.opI, .int .i64 A, .int .i64 B, .int .i64 C, .int .i64 N, .int .i64 L, .str T, W]) : bareP i (l ++ [116]) = [.int .u8 i.opI, .int .i64 A, .int .i64 B, .int .i64 C, .int .i64 N, .int .i64 L, .str i.text, W] := by
 simp only [bareP, List.cons.injEq, AV.int.injEq, AV.str.injEq, true_and, and_true] at h
 obtain ⟨h1, h2, h3, h4, h5, h6, h7⟩ := h
 simp [bareP, List.mem_append, h1, h2, h3, h4, h5, h6, h7]
theorem bareP_115 (i : Ins) (l : List UInt8) (A B C N L : Int) (T : List UInt8) (W : AV) (h : bareP i l = [.int .u8 i.opI, .int .i64 A, .int .i64 B, .int .i64 C, .int .i64 N, .int .i64 L, .str T, W]) : bareP i (l ++ [115]) = [.int .u8 i.opI, .int .i64 A, .int .i64 B, .int .i64 C, .int .i64 N, .int .i64 L, .str T, rowOf intA i.slots] := by
 simp only [bareP, List.cons.injEq, AV.int.injEq, AV.str.injEq, true_and, and_true] at h
 obtain ⟨h1, h2, h3, h4, h5, h6, h7⟩ := h
 simp [bareP, List.mem_append, h1, h2, h3, h4, h5, h6, h7]
theorem bareP_108 (i : Ins) (l : List UInt8) (A B C N L : Int) (T : List UInt8) (W : AV) (h : bareP i l = [.int .u8 i.opI, .int .i64 A, .int .i64 B, .int .i64 C, .int .i64 N, .int .i64 L, .str T, W]) : bareP i (l ++ [108]) = [.int .u8 i.opI, .int .i64 A, .int .i64 B, .int .i64 C, .int .i64 N, .int .i64 i.l, .str T, W] := by
 simp only [bareP, List.cons.injEq, AV.int.injEq, AV.str.injEq, true_and, and_true] at h
 obtain ⟨h1, h2, h3, h4, h5, h6, h7⟩ := h
 simp [bareP, List.mem_append, h1, h2, h3, h4, h5, h6, h7]
theorem bareP_other (i : Ins) (l : List UInt8) (c : UInt8) (k97 : ¬ c = 97) (k98 : ¬ c = 98) (k99 : ¬ c = 99) (k107 : ¬ c = 107) (k102 : ¬ c = 102) (k110 : ¬ c = 110) (k116 : ¬ c = 116) (k115 : ¬ c = 115) (k108 : ¬ c = 108) : bareP i (l ++ [c]) = bareP i l := by
 simp [bareP, List.mem_append, Ne.symm k97, Ne.symm k98, Ne.symm k99, Ne.symm k107, Ne.symm k102, Ne.symm k110, Ne.symm k116, Ne.symm k115, Ne.symm k108]
end
set_option maxRecDepth 20000
section
def tbCodX := And.intro (And.intro (And.intro (And.intro @tf3 (And.intro @tf4 @tf5)) (And.intro (And.intro @tf9 @tf37) (And.intro @tf39 @tf23))) (And.intro (And.intro (And.intro @tf30 @tf66) (And.intro @tf21 @tf58)) (And.intro (And.intro @tf24 @tf55) (And.intro @tf56 @tf169)))) (And.intro (And.intro (And.intro @isv_rowOf (And.intro @flat_rowOf @len_rowOf)) (And.intro (And.intro @ix_rowOf @isv_encs) (And.intro @flat_encs @len_encs))) (And.intro (And.intro (And.intro @Ins.flat_enc @Ins.isv_enc) (And.intro @Ins.fold_enc @ares_tmpc)) (And.intro (And.intro @ares_cellc @Term.fold_enc) (And.intro @Term.isv_enc @Term.flat_enc))))
variable {G : Nat -> AV}
theorem itoa_len4 (n : Int) (h0 : -9223372036854775808 <= n) (h1 : n <= 9223372036854775807) : (itoa n).length <= 31 := by
 unfold itoa
 have := decT_len (k := 30) (n := n.natAbs) (by omega) (by have : (10 : Nat) ^ 30 = 1000000000000000000000000000000 := by decide
                                                           omega)
 split <;> simp only [List.length_append, List.length_cons, List.length_nil] <;> omega
theorem putT_tri (hg : GlobC G) (s t : List UInt8) (n : Int) (hn : -9223372036854775808 <= n /\ n < 9223372036854775808) (hl : t.length + s.length <= 1000000000000) {σ : AS} {b : Nat} (hb : σ.box b = some [.str t]) : Tri Tryz.prog G 62 [.str s, .int .i64 n, .ptr b 0] σ fun r σ' => r = .tup [] /\ σ' = σ.setBox b [.str (t ++ (s ++ itoa n))] := by
 have hi := itoa_pure (G := G) hg.pow n hn.1 (by omega)
 have hil := itoa_len4 n hn.1 (by omega)
 have hL1 : s.length + (itoa n).length <= maxLen := by unfold maxLen; omega
 have hL2 : t.length + (s ++ itoa n).length <= maxLen := by rw [List.length_append]; unfold maxLen; omega
 refine Tri.of_awp mixed Tryz.func62 rfl (by kernel_rfl) (by kernel_rfl) (by simp [Tryz.ntmps62]) Tryz.results62 ?_
 repeat' (first | refine xs ?_ ?_ <;> intros | (refine wn ?_; intro bx hbx; try simp only [fb] at hbx) | refine wp hi ?_ | refine wj ?_ | simp -dsimp only [↓bp, bq, br, seval, tbCodX, *] | refine wz ?_ | fail)
 all_goals exact finishW_some _ (AS.le.refl _) ⟨rfl, rfl⟩
end
end Go.Proofs.YtjmdaeabllkgnaaGreatDoor
