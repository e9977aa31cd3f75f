/- Code: shapes, what is written, what is built in: the program's way. -/
import Derived.Test.YtjmdaeabllkgnaaGreatDoorY19
import Derived.Test.YtjmdaeabllkgnaaGreatDoorY21
import Derived.Test.YtjmdaeabllkgnaaGreatDoorY22
import Derived.Test.YtjmdaeabllkgnaaGreatDoorY11
import Derived.Test.YtjmdaeabllkgnaaGreatDoorY16
set_option linter.unusedVariables false
set_option linter.unusedSimpArgs false
set_option maxRecDepth 20000
set_option linter.defProp false
namespace Go.Proofs.YtjmdaeabllkgnaaGreatDoor
open Go Go.Av
section
def tbCodA := And.intro (And.intro (And.intro (And.intro @tf3 @tf4) (And.intro @tf5 (And.intro @tf9 @tf37))) (And.intro (And.intro @tf39 @tf30) (And.intro @tf66 (And.intro @tf112 @tf257)))) (And.intro (And.intro (And.intro @tf258 @isv_rowOf) (And.intro @flat_rowOf (And.intro @len_rowOf @ix_rowOf))) (And.intro (And.intro @Ins.flat_enc @Ins.isv_enc) (And.intro @Ins.fold_enc (And.intro @ares_tmpc @ares_cellc))))
def Shp.cells (s : Shp) : List AV := [.str s.word, .str s.fields, .bool s.next]
def shpCells : List AV := shps.flatMap Shp.cells
def builtinCells : List AV := builtinL.flatMap fun r => r.map AV.str
structure GlobC (G : Nat -> AV) : Prop extends GlobT G where
 shapes : G 0 = .rp shpCells
 builtin : G 3 = .rp builtinCells
 most : ∃ m, G 2 = .rp [.int .i64 m]
variable {G : Nat -> AV}
def shpA (s : Shp) : AV := .agg [.str s.word, .str s.fields, .bool s.next]
theorem shp_row' : ∀ k : Fin 30, (shpCells.drop (k.1 * 3)).take 3 = (shpOf (UInt8.ofNat k)).cells := by
 intro k
 match k with
 | ⟨0, _⟩ | ⟨1, _⟩ | ⟨2, _⟩ | ⟨3, _⟩ | ⟨4, _⟩ | ⟨5, _⟩ | ⟨6, _⟩ | ⟨7, _⟩ | ⟨8, _⟩ | ⟨9, _⟩ | ⟨10, _⟩ | ⟨11, _⟩ | ⟨12, _⟩ | ⟨13, _⟩ | ⟨14, _⟩ | ⟨15, _⟩ | ⟨16, _⟩ | ⟨17, _⟩ | ⟨18, _⟩ | ⟨19, _⟩ | ⟨20, _⟩ | ⟨21, _⟩ | ⟨22, _⟩ | ⟨23, _⟩ | ⟨24, _⟩ | ⟨25, _⟩ | ⟨26, _⟩ | ⟨27, _⟩ | ⟨28, _⟩ | ⟨29, _⟩ => rfl
 | ⟨n + 30, h⟩ => omega
theorem shp_row {op : UInt8} (h : op.toNat < 30) : (shpCells.drop (op.toNat * 3)).take 3 = [.str (shpOf op).word, .str (shpOf op).fields, .bool (shpOf op).next] := by
 have := shp_row' ⟨op.toNat, h⟩
 simp only [UInt8.ofNat_toNat] at this
 exact this
theorem of_pure (hg : GlobC G) (op : UInt8) : Pure Tryz.prog G 39 [.int .u8 op.toNat] (shpA (shpOf op)) := by
 have hlt := op.toNat_lt
 have hw : IntKind.i64.wrap (op.toNat : Int) = op.toNat := wrap_nat (by omega) (by omega)
 have hgs := hg.shapes
 unfold shpA
 clear hg
 intro σ
 by_cases h : 30 <= op.toNat
 ·have h1 : ((30 : Int) <= (op.toNat : Int)) = True := eq_true (by omega)
  have hs : shpOf op = ⟨[], [], false⟩ := by
   unfold shpOf
   rw [List.getElem?_eq_none (by show 30 <= _; exact h)]; rfl
  rw [hs]
  clear hs h hlt
  refine Tri.of_awp mixed Tryz.func39 rfl (by kernel_rfl) (by kernel_rfl) (by simp [Tryz.ntmps39]) Tryz.results39 ?_
  repeat' (first | refine xs ?_ ?_ <;> intros | (refine wn ?_; intro bx hbx; try simp only [fb] at hbx) | refine wj ?_ | simp -dsimp only [↓bp, bq, br, seval, tbCodA, *] | refine wz ?_ | fail)
  all_goals rfl
 ·have h1 : ((30 : Int) <= (op.toNat : Int)) = False := eq_false (by omega)
  have hsr := shp_row (Nat.lt_of_not_le h)
  have hdl : 3 <= (shpCells.drop (op.toNat * 3)).length := by rw [List.length_drop, show shpCells.length = 90 from rfl]; omega
  have hl2 : ((op.toNat : Int) < 30) = True := eq_true (by omega)
  have h0 : ((0 : Int) <= op.toNat) = True := eq_true (by omega)
  generalize shpOf op = s at *
  clear h hlt
  refine Tri.of_awp mixed Tryz.func39 rfl (by kernel_rfl) (by kernel_rfl) (by simp [Tryz.ntmps39]) Tryz.results39 ?_
  repeat' (first | refine xs ?_ ?_ <;> intros | (refine wn ?_; intro bx hbx; try simp only [fb] at hbx) | refine wj ?_ | simp -dsimp only [↓bp, bq, br, seval, tbCodA, *] | refine wz ?_ | fail)
  all_goals rfl
theorem writes_pure (hg : GlobC G) (i : Ins) : Pure Tryz.prog G 21 [i.enc] (.tup [.int .i64 (if writesB i = true then i.a else 0), .bool (writesB i)]) := by
 have ho := of_pure hg i.op
 have hp := prefixC_pure G (shpOf i.op).fields [97]
 rw [show [97].isPrefixOf (shpOf i.op).fields = writesB i from rfl] at hp
 unfold shpA at ho
 generalize shpOf i.op = s at *
 generalize writesB i = wb at *
 clear hg
 cases wb with
 | true =>
  simp only [if_true]
  intro σ
  refine Tri.of_awp mixed Tryz.func21 rfl (by kernel_rfl) (by kernel_rfl) (by simp [Tryz.ntmps21]) Tryz.results21 ?_
  repeat' (first | refine xs ?_ ?_ <;> intros | (refine wn ?_; intro bx hbx; try simp only [fb] at hbx) | refine wp ho ?_ | refine wp hp ?_ | refine wj ?_ | simp -dsimp only [↓bp, bq, br, seval, tbCodA, *] | refine wz ?_ | fail)
  all_goals rfl
 | false =>
  simp only [Bool.false_eq_true, if_false]
  intro σ
  refine Tri.of_awp mixed Tryz.func21 rfl (by kernel_rfl) (by kernel_rfl) (by simp [Tryz.ntmps21]) Tryz.results21 ?_
  repeat' (first | refine xs ?_ ?_ <;> intros | (refine wn ?_; intro bx hbx; try simp only [fb] at hbx) | refine wp ho ?_ | refine wp hp ?_ | refine wj ?_ | simp -dsimp only [↓bp, bq, br, seval, tbCodA, *] | refine wz ?_ | fail)
  all_goals rfl
theorem builtin_row' : ∀ (k a : Fin 4), ((builtinCells.drop (k.1 * 4)).drop (a.1 * 1)).take 1 = [.str ((builtinL.getD k.1 []).getD a.1 [])] := by
 intro k a
 match k, a with
 | ⟨0, _⟩, ⟨0, _⟩ | ⟨0, _⟩, ⟨1, _⟩ | ⟨0, _⟩, ⟨2, _⟩ | ⟨0, _⟩, ⟨3, _⟩ | ⟨1, _⟩, ⟨0, _⟩ | ⟨1, _⟩, ⟨1, _⟩ | ⟨1, _⟩, ⟨2, _⟩ | ⟨1, _⟩, ⟨3, _⟩ | ⟨2, _⟩, ⟨0, _⟩ | ⟨2, _⟩, ⟨1, _⟩ | ⟨2, _⟩, ⟨2, _⟩ | ⟨2, _⟩, ⟨3, _⟩ | ⟨3, _⟩, ⟨0, _⟩ | ⟨3, _⟩, ⟨1, _⟩ | ⟨3, _⟩, ⟨2, _⟩ | ⟨3, _⟩, ⟨3, _⟩ => rfl
 | ⟨n + 4, h⟩, _ => omega
 | _, ⟨n + 4, h⟩ => omega
theorem builtin_len' : ∀ (k a : Fin 4), ((builtinL.getD k.1 []).getD a.1 []).length <= 1000 := by decide +kernel
theorem kindAt_step (name : List UInt8) (a : Nat) (k : Nat) (h : k < 4) : kindAt name a k (builtinL.drop k) = if hasWord ((builtinL.getD k []).getD a []) name = true then k else kindAt name a (k + 1) (builtinL.drop (k + 1)) := by
 have hk : builtinL[k]? = some (builtinL.getD k []) := by
  rw [List.getD_eq_getElem?_getD, List.getElem?_eq_getElem (by show k < 4; exact h)]; rfl
 rw [drop_get _ _ _ hk]; rfl
set_option maxHeartbeats 2000000 in
theorem kind_pure (hg : GlobC G) (name : List UInt8) (hn : name.length <= 1000000000) (a : Nat) (ha : a <= 1000000000) : Pure Tryz.prog G 148 [.str name, .int .i64 a] (.int .i64 (lintKind name a : Nat)) := by
 have hc32 := containsC_pure hg.most name [32] (by omega)
 have hcw := fun l hl => containsC_pure hg.most ([32] ++ l ++ [32]) ([32] ++ name ++ [32]) hl
 have hgb := hg.builtin
 have ha0 : ((a : Int) < 0) = False := eq_false (by omega)
 clear hg
 intro σ
 by_cases h1 : name = []
 ·have h1' : (name = []) = True := eq_true h1
  have hl : lintKind name a = 0 := if_pos (.inl h1)
  rw [hl]
  clear h1 hl
  refine Tri.of_awp mixed Tryz.func148 rfl (by kernel_rfl) (by kernel_rfl) (by simp [Tryz.ntmps148]) Tryz.results148 ?_
  repeat' (first | refine xs ?_ ?_ <;> intros | (refine wn ?_; intro bx hbx; try simp only [fb] at hbx) | refine wp hc32 ?_ | refine wj ?_ | simp -dsimp only [↓bp, bq, br, seval, tbCodA, *] | refine wz ?_ | fail)
  all_goals rfl
 have h1' : (name = []) = False := eq_false h1
 by_cases h3 : 3 < a
 ·have h3' : ((3 : Int) < (a : Int)) = True := eq_true (by omega)
  have hl : lintKind name a = 0 := if_pos (.inr (.inl h3))
  rw [hl]
  clear h1 h3 hl
  refine Tri.of_awp mixed Tryz.func148 rfl (by kernel_rfl) (by kernel_rfl) (by simp [Tryz.ntmps148]) Tryz.results148 ?_
  repeat' (first | refine xs ?_ ?_ <;> intros | (refine wn ?_; intro bx hbx; try simp only [fb] at hbx) | refine wp hc32 ?_ | refine wj ?_ | simp -dsimp only [↓bp, bq, br, seval, tbCodA, *] | refine wz ?_ | fail)
  all_goals rfl
 have h3' : ((3 : Int) < (a : Int)) = False := eq_false (by omega)
 cases hcn : Lib.contains name [32] with
 | true =>
  have hl : lintKind name a = 0 := if_pos (.inr (.inr hcn))
  rw [hl]
  rw [hcn] at hc32
  clear h1 h3 hl hcn
  refine Tri.of_awp mixed Tryz.func148 rfl (by kernel_rfl) (by kernel_rfl) (by simp [Tryz.ntmps148]) Tryz.results148 ?_
  repeat' (first | refine xs ?_ ?_ <;> intros | (refine wn ?_; intro bx hbx; try simp only [fb] at hbx) | refine wp hc32 ?_ | refine wj ?_ | simp -dsimp only [↓bp, bq, br, seval, tbCodA, *] | refine wz ?_ | fail)
  all_goals rfl
 | false =>
  have hl : lintKind name a = kindAt name a 0 builtinL := if_neg (by simp [h1, h3, hcn])
  rw [hl]
  rw [hcn] at hc32
  clear h1 hl hcn
  have ha3 : a < 4 := by omega
  refine Tri.of_awp mixed Tryz.func148 rfl (by kernel_rfl) (by kernel_rfl) (by simp [Tryz.ntmps148]) Tryz.results148 ?_
  repeat' (first | refine xs ?_ ?_ <;> intros | (refine wn ?_; intro bx hbx; try simp only [fb] at hbx) | refine wp hc32 ?_ | refine wj ?_ | simp -dsimp only [↓bp, bq, br, seval, tbCodA, *] | refine wz ?_ | fail)
  refine loop_keep mixed (fun n e => ∃ k : Nat, k <= 4 /\ n = 4 - k /\ e 20 = .int .i64 k /\ kindAt name a k (builtinL.drop k) = kindAt name a 0 builtinL) 4
   ⟨0, by omega, by omega, by first | (simp -dsimp only [↓bp, bq, br, seval, tbCodA]; done) | (simp -dsimp only [↓bp, bq, br, seval, tbCodA]; try rfl), rfl⟩ ?_
  rintro n v ⟨k, hk, rfl, h20, hK⟩
  simp -dsimp only [↓bp, bq, br, seval, tbCodA] at h20
  by_cases hlt : (k : Int) < 4
  ·have hk4 : k < 4 := by omega
   have hlt' := eq_true hlt
   have h0k : ((0 : Int) <= (k : Int)) = True := eq_true (by omega)
   have h0a : ((0 : Int) <= (a : Int)) = True := eq_true (by omega)
   have h4a : ((a : Int) < 4) = True := eq_true (by omega)
   have hrow := builtin_row' ⟨k, hk4⟩ ⟨a, ha3⟩
   have hlen := builtin_len' ⟨k, hk4⟩ ⟨a, ha3⟩
   have hd1 : 4 <= (builtinCells.drop (k * 4)).length := by rw [List.length_drop, show builtinCells.length = 16 from rfl]; omega
   have hd2 : 1 <= ((builtinCells.drop (k * 4)).drop (a * 1)).length := by rw [List.length_drop]; omega
   simp only at hrow hlen
   have hhd : ((builtinCells.drop (k * 4)).drop (a * 1)).head? = some (.str ((builtinL.getD k []).getD a [])) := by
    cases hx : (builtinCells.drop (k * 4)).drop (a * 1) with
    | nil => rw [hx] at hrow; cases hrow
    | cons x l => rw [hx] at hrow; simp only [List.take_succ_cons, List.take_zero, List.cons.injEq, and_true] at hrow; rw [hrow]; rfl
   rw [kindAt_step name a k hk4] at hK
   have hw : Pure Tryz.prog G 40 [.str (32 :: ((builtinL.getD k []).getD a [] ++ [32])), .str (32 :: (name ++ [32]))] (.bool (Lib.contains ([32] ++ (builtinL.getD k []).getD a [] ++ [32]) ([32] ++ name ++ [32]))) := hcw ((builtinL.getD k []).getD a []) (by rw [List.length_append, List.length_append]; simp only [List.length_singleton]; omega)
   have hwi : IntKind.i64.wrap ((k : Int) + 1) = ((k + 1 : Nat) : Int) := by rw [wrap_nat (by omega) (by omega)]; rfl
   have m1 : (1 + ((builtinL.getD k []).getD a []).length <= maxLen) = True := eq_true (by unfold maxLen; omega)
   have m2 : (((builtinL.getD k []).getD a []).length + 1 + 1 <= maxLen) = True := eq_true (by unfold maxLen; omega)
   have m3 : (1 + name.length <= maxLen) = True := eq_true (by unfold maxLen; omega)
   have m4 : (name.length + 1 + 1 <= maxLen) = True := eq_true (by unfold maxLen; omega)
   unfold hasWord at hK
   generalize (builtinL.getD k []).getD a [] = L at *
   clear hcw hlt hk hlen hn ha ha3 h3 hc32
   cases hb : Lib.contains ([32] ++ L ++ [32]) ([32] ++ name ++ [32]) with
   | true =>
    rw [hb] at hw hK
    simp only [if_true] at hK
    rw [<- hK]
    clear hK hb
    repeat' (first | refine xs ?_ ?_ <;> intros | (refine wn ?_; intro bx hbx; try simp only [fb] at hbx) | refine wp hw ?_ | refine wj ?_ | simp -dsimp only [↓bp, bq, br, seval, tbCodA, *] | refine wz ?_ | fail)
    all_goals rfl
   | false =>
    rw [hb] at hw hK
    simp only [Bool.false_eq_true, if_false] at hK
    clear hb
    repeat' (first | refine xs ?_ ?_ <;> intros | (refine wn ?_; intro bx hbx; try simp only [fb] at hbx) | refine wp hw ?_ | refine wj ?_ | simp -dsimp only [↓bp, bq, br, seval, tbCodA, *] | refine wz ?_ | fail)
    all_goals exact ⟨4 - (k + 1), by omega, k + 1, by omega, rfl, rfl, hK⟩
  ·have : k = 4 := by omega
   subst this
   have hlt' := eq_false hlt
   rw [<- hK]
   clear hcw hlt hk hK hc32
   repeat' (first | refine xs ?_ ?_ <;> intros | (refine wn ?_; intro bx hbx; try simp only [fb] at hbx) | refine wj ?_ | simp -dsimp only [↓bp, bq, br, seval, tbCodA, *] | refine wz ?_ | fail)
   all_goals rfl
theorem textOK_pure (hg : GlobC G) (i : Ins) (hi : i.bulk <= 1000000000) : Pure Tryz.prog G 86 [i.enc] (.bool (textOK i)) := by
 unfold Ins.bulk at hi
 have hk := kind_pure hg i.text (by omega) i.slots.length (by omega)
 clear hg
 have h10 : (i.opI = 10) = (i.op = 10) := propext ⟨fun h => UInt8.toNat_inj.1 (by have : (10 : UInt8).toNat = 10 := rfl; unfold Ins.opI at h; omega), fun h => by unfold Ins.opI; rw [h]; rfl⟩
 have hz0 : ((lintKind i.text i.slots.length : Int) = 0) = (lintKind i.text i.slots.length = 0) := propext ⟨fun h => by omega, fun h => by omega⟩
 have hz2 : ((lintKind i.text i.slots.length : Int) = 2) = (lintKind i.text i.slots.length = 2) := propext ⟨fun h => by omega, fun h => by omega⟩
 have hs2 : ((i.slots.length : Int) = 2) = (i.slots.length = 2) := propext ⟨fun h => by omega, fun h => by omega⟩
 unfold textOK
 clear hi
 by_cases h1 : i.op = 10
 ·rw [if_pos h1]
  rw [eq_true h1] at h10
  clear h1 hz2 hs2
  by_cases h2 : lintKind i.text i.slots.length = 0
  ·rw [eq_true h2] at hz0
   rw [decide_eq_false (by simp [h2])]
   clear h2
   intro σ
   refine Tri.of_awp mixed Tryz.func86 rfl (by kernel_rfl) (by kernel_rfl) (by simp [Tryz.ntmps86]) Tryz.results86 ?_
   repeat' (first | refine xs ?_ ?_ <;> intros | (refine wn ?_; intro bx hbx; try simp only [fb] at hbx) | refine wp hk ?_ | refine wj ?_ | simp -dsimp only [↓bp, bq, br, seval, tbCodA, *] | refine wz ?_ | fail)
   all_goals rfl
  ·rw [eq_false h2] at hz0
   rw [decide_eq_true h2]
   clear h2
   intro σ
   refine Tri.of_awp mixed Tryz.func86 rfl (by kernel_rfl) (by kernel_rfl) (by simp [Tryz.ntmps86]) Tryz.results86 ?_
   repeat' (first | refine xs ?_ ?_ <;> intros | (refine wn ?_; intro bx hbx; try simp only [fb] at hbx) | refine wp hk ?_ | refine wj ?_ | simp -dsimp only [↓bp, bq, br, seval, tbCodA, *] | refine wz ?_ | fail)
   all_goals rfl
 ·rw [if_neg h1]
  rw [eq_false h1] at h10
  clear h1 hz0
  intro σ
  refine Tri.of_awp mixed Tryz.func86 rfl (by kernel_rfl) (by kernel_rfl) (by simp [Tryz.ntmps86]) Tryz.results86 ?_
  repeat' (first | refine xs ?_ ?_ <;> intros | (refine wn ?_; intro bx hbx; try simp only [fb] at hbx) | refine wp hk ?_ | refine wj ?_ | simp -dsimp only [↓bp, bq, br, seval, tbCodA, *] | refine wz ?_ | fail)
  all_goals (first | (simp only [hz2, hs2, *, Bool.and_true, Bool.true_and, Bool.and_false, Bool.false_and, Bool.or_true, Bool.true_or, Bool.or_false, Bool.false_or, Bool.not_true, Bool.not_false, if_true, if_false, Bool.and_self, Bool.or_self]; done) | (simp [hz2, hs2, *]; done) | (simp_all [hz2, hs2]; done))
end
set_option maxRecDepth 20000
section
def tbCodB := And.intro (And.intro (And.intro (And.intro @tf3 @tf4) (And.intro @tf5 (And.intro @tf9 @tf37))) (And.intro (And.intro @tf39 (And.intro @tf30 @tf66)) (And.intro @tf21 (And.intro @tf58 @tf24)))) (And.intro (And.intro (And.intro @tf56 (And.intro @tf55 @tf169)) (And.intro @isv_rowOf (And.intro @flat_rowOf @len_rowOf))) (And.intro (And.intro @ix_rowOf (And.intro @Ins.flat_enc @Ins.isv_enc)) (And.intro @Ins.fold_enc (And.intro @ares_tmpc @ares_cellc))))
variable {G : Nat -> AV}
theorem wbuf_setTy {n : Nat} {E : TypeId} {σ0 σ : AS} {v : AV} {xs : List AV} (h : WBuf n E σ0 σ v xs) {b : Nat} (hb : σ0.ty b = none) (x : TyE × Nat) : WBuf n E σ0 (σ.setTy b x) v xs := by
 cases h with
 | nil h => exact .nil (h.setTy hb _)
 | row r xs h h0 h1 hbx hx => exact .row r xs (h.setTy hb _) h0 h1 hbx hx
theorem wbuf_from {n : Nat} {E : TypeId} {σ0 S σ : AS} {v : AV} {xs : List AV} (h : WBuf n E S σ v xs) (hl : σ0.le S) : WBuf n E σ0 σ v xs := by
 cases h with
 | nil h => exact .nil (hl.trans h)
 | row r xs h h0 h1 hbx hx => exact .row r xs (hl.trans h) (hl.noBox h0) (hl.noTip h1) hbx hx
theorem tfI : aelt Tryz.prog 30 = some (3, 1, 8) := tf30.2.2.2.2.2.2
theorem tfIE : el Tryz.prog 30 = some 3 := tf30.2.2.2.1
theorem ints_ok (l : List Int) : ∀ a, a ∈ l.map intA -> (flat a).length = 1 /\ isv a = true := fun a ha => by
 obtain ⟨x, _, rfl⟩ := List.mem_map.1 ha; exact ⟨rfl, rfl⟩
def asciiF (fs : List UInt8) : Bool := decide (fs.length <= 4) && fs.all fun c => decide (c.toNat < 128)
theorem fields_ascii : ∀ k : Fin 256, asciiF (shpOf (UInt8.ofNat k)).fields = true := by decide +kernel
theorem word_short : ∀ k : Fin 256, decide ((shpOf (UInt8.ofNat k)).word.length <= 40) = true := by decide +kernel
theorem ascii_get {fs : List UInt8} (h : asciiF fs = true) {p : Nat} {c : UInt8} (hc : fs[p]? = some c) : c.toNat < 128 := by
 unfold asciiF at h
 rw [Bool.and_eq_true, List.all_eq_true] at h
 simpa using h.2 c (List.mem_of_getElem? hc)
theorem readsF_next (i : Ins) (fs : List UInt8) (p : Nat) (c : UInt8) (h : fs[p]? = some c) : (readsF i (fs.take (p + 1))).map intA = (readsF i (fs.take p)).map intA ++ (bySign i c).map intA := by
 rw [take_succ_get _ _ _ h]; simp [readsF, List.flatMap_append]
theorem readsF_len (i : Ins) : ∀ fs : List UInt8, (readsF i fs).length <= fs.length * (i.slots.length + 1)
 | [] => by simp [readsF]
 | f :: fs => by
  have ih := readsF_len i fs
  have : (bySign i f).length <= i.slots.length + 1 := by
   unfold bySign; repeat' split
   all_goals simp
  simp only [readsF, List.flatMap_cons, List.length_append, List.length_cons] at ih ⊢
  rw [Nat.add_mul]; omega
set_option maxHeartbeats 4000000 in
theorem reads_tri (hg : GlobC G) (i : Ins) (hi : i.bulk <= 1000000) (σ : AS) : Tri Tryz.prog G 20 [i.enc] σ fun r σ' => WBuf 1 3 σ σ' r ((reads i).map intA) := by
 have ho := of_pure hg i.op
 have hfa := op_all (p := fun op => asciiF (shpOf op).fields) fields_ascii i.op
 unfold shpA at ho
 unfold reads
 generalize shpOf i.op = s at *
 obtain ⟨w, fs, nx⟩ := s
 simp only at ho hfa ⊢
 have hfl : fs.length <= 4 := by unfold asciiF at hfa; rw [Bool.and_eq_true, decide_eq_true_eq] at hfa; exact hfa.1
 have hsl : i.slots.length <= 1000000 := by unfold Ins.bulk at hi; omega
 clear hg hi
 refine Tri.of_awp mixed Tryz.func20 rfl (by kernel_rfl) (by kernel_rfl) (by simp [Tryz.ntmps20]) Tryz.results20 ?_
 repeat' (first | refine xs ?_ ?_ <;> intros | (refine wn ?_; intro bx hbx; try simp only [fb] at hbx) | refine wp ho ?_ | ((refine range_str tf9.2.1 (fun b hb => ?_))) | refine wj ?_ | simp -dsimp only [↓bp, bq, br, seval, tbCodB, *] | refine wz ?_ | fail)
 have hle0 : σ.le (σ.setBox bx [.int .u8 i.opI, .int .i64 i.a, .int .i64 i.b, .int .i64 i.c, .int .i64 i.n, .int .i64 i.l, .str i.text, rowOf intA i.slots]) := (AS.le.refl σ).setBox hbx.1 _
 have hbx0 : (σ.setBox bx [.int .u8 i.opI, .int .i64 i.a, .int .i64 i.b, .int .i64 i.c, .int .i64 i.n, .int .i64 i.l, .str i.text, rowOf intA i.slots]).box bx = some [.int .u8 i.opI, .int .i64 i.a, .int .i64 i.b, .int .i64 i.c, .int .i64 i.n, .int .i64 i.l, .str i.text, rowOf intA i.slots] := AS.set_get
 generalize σ.setBox bx [.int .u8 i.opI, .int .i64 i.a, .int .i64 i.b, .int .i64 i.c, .int .i64 i.n, .int .i64 i.l, .str i.text, rowOf intA i.slots] = S at *
 refine loop_intro (fun n e σ' => ∃ (p : Nat) (v : AV), p <= fs.length /\ n = fs.length - p /\ e 3 = v /\ WBuf 1 3 S σ' v ((readsF i (fs.take p)).map intA) /\ σ'.ty b = some (.ob (.iter fs p), 0)) fs.length
  ⟨0, .nil, by omega, by omega, by first | (simp -dsimp only [↓bp, bq, br, seval, tbCodB]; done) | (simp -dsimp only [↓bp, bq, br, seval, tbCodB]; try rfl), wbuf_setTy (WBuf.nil (AS.le.refl _)) hb.2.2 _, by simp [AS.setTy]⟩ ?_
 rintro n e σ2 ⟨p, v, hp, rfl, h3, hB, hty⟩
 simp -dsimp only [↓bp, bq, br, seval, tbCodB] at h3
 have hb2 := hB.le.box _ _ hbx0
 have hle2 := hle0.trans hB.le
 have hBl : ((readsF i (fs.take p)).map intA).length <= 4 * 1000001 := by
  rw [List.length_map]
  have := readsF_len i (fs.take p)
  have h4 : (fs.take p).length <= 4 := by rw [List.length_take]; omega
  exact Nat.le_trans this (Nat.mul_le_mul h4 (by omega))
 by_cases hlt : p < fs.length
 ·obtain ⟨c, hc⟩ : ∃ c, fs[p]? = some c := ⟨_, List.getElem?_eq_getElem hlt⟩
  have hca := ascii_get hfa hc
  have hn := readsF_next i fs p c hc
  have hcases : (((c.toNat : Int) = 98) = True /\ bySign i c = [i.b]) \/ (((c.toNat : Int) = 98) = False /\ ((c.toNat : Int) = 99) = True /\ bySign i c = [i.c]) \/ (((c.toNat : Int) = 98) = False /\ ((c.toNat : Int) = 99) = False /\ ((c.toNat : Int) = 115) = True /\ bySign i c = i.slots) \/
    (((c.toNat : Int) = 98) = False /\ ((c.toNat : Int) = 99) = False /\ ((c.toNat : Int) = 115) = False /\ bySign i c = []) := by
   by_cases k1 : c = 98
   ·subst k1; exact .inl ⟨eq_true rfl, rfl⟩
   by_cases k2 : c = 99
   ·subst k2; exact .inr (.inl ⟨eq_false (by decide), eq_true rfl, rfl⟩)
   by_cases k3 : c = 115
   ·subst k3; exact .inr (.inr (.inl ⟨eq_false (by decide), eq_false (by decide), eq_true rfl, rfl⟩))
   ·refine .inr (.inr (.inr ⟨eq_false fun h => k1 (UInt8.toNat_inj.1 ?_), eq_false fun h => k2 (UInt8.toNat_inj.1 ?_), eq_false fun h => k3 (UInt8.toNat_inj.1 ?_), by unfold bySign; rw [if_neg k1, if_neg k2, if_neg k3]⟩)) <;> simp <;> omega
  have hB1 := wbuf_setTy hB hb.2.2 (.ob (.iter fs (p + 1)), 0)
  have hty1 : (σ2.setTy b (.ob (.iter fs (p + 1)), 0)).ty b = some (.ob (.iter fs (p + 1)), 0) := by simp [AS.setTy]
  have hb3 : (σ2.setTy b (.ob (.iter fs (p + 1)), 0)).box bx = some [.int .u8 i.opI, .int .i64 i.a, .int .i64 i.b, .int .i64 i.c, .int .i64 i.n, .int .i64 i.l, .str i.text, rowOf intA i.slots] := hb2
  clear hbx0 hle0 hfa ho
  rcases hcases with ⟨q1, q⟩ | ⟨q1, q2, q⟩ | ⟨q1, q2, q3, q⟩ | ⟨q1, q2, q3, q⟩
  ·rw [q] at hn
   clear q
   repeat' (first | refine xs ?_ ?_ <;> intros | (refine wn ?_; intro bx hbx; try simp only [fb] at hbx) | (refine next_more hty hc hca ?_) | ((refine app_wb (ys := [intA i.b]) hB1 tfI (asrc_sl tfIE) (ints_ok [i.b]) (by simp only [List.length_cons, List.length_nil]; omega) (fun v3 σ3 hA => ?_))) | refine wj ?_ | simp -dsimp only [↓bp, bq, br, seval, tbCodB, *] | refine wz ?_ | fail)
   exact ⟨fs.length - (p + 1), by omega, p + 1, v3, by omega, rfl, rfl, by rw [hn]; exact hA.buf, by rw [hA.ty]; exact hty1⟩
  ·rw [q] at hn
   clear q
   repeat' (first | refine xs ?_ ?_ <;> intros | (refine wn ?_; intro bx hbx; try simp only [fb] at hbx) | (refine next_more hty hc hca ?_) | ((refine app_wb (ys := [intA i.c]) hB1 tfI (asrc_sl tfIE) (ints_ok [i.c]) (by simp only [List.length_cons, List.length_nil]; omega) (fun v3 σ3 hA => ?_))) | refine wj ?_ | simp -dsimp only [↓bp, bq, br, seval, tbCodB, *] | refine wz ?_ | fail)
   exact ⟨fs.length - (p + 1), by omega, p + 1, v3, by omega, rfl, rfl, by rw [hn]; exact hA.buf, by rw [hA.ty]; exact hty1⟩
  ·rw [q] at hn
   clear q
   repeat' (first | refine xs ?_ ?_ <;> intros | (refine wn ?_; intro bx hbx; try simp only [fb] at hbx) | (refine next_more hty hc hca ?_) | ((refine app_wb (ys := i.slots.map intA) hB1 tfI (asrc_rowOf tfIE) (ints_ok i.slots) (by simp only [List.length_map] at hBl ⊢; omega) (fun v3 σ3 hA => ?_))) | refine wj ?_ | simp -dsimp only [↓bp, bq, br, seval, tbCodB, *] | refine wz ?_ | fail)
   exact ⟨fs.length - (p + 1), by omega, p + 1, v3, by omega, rfl, rfl, by rw [hn]; exact hA.buf, by rw [hA.ty]; exact hty1⟩
  ·rw [q] at hn
   clear q
   repeat' (first | refine xs ?_ ?_ <;> intros | (refine wn ?_; intro bx hbx; try simp only [fb] at hbx) | (refine next_more hty hc hca ?_) | refine wj ?_ | simp -dsimp only [↓bp, bq, br, seval, tbCodB, *] | refine wz ?_ | fail)
   exact ⟨fs.length - (p + 1), by omega, p + 1, v, by omega, rfl, rfl, by rw [hn, List.map_nil, List.append_nil]; exact hB1, rfl⟩
 ·have : p = fs.length := by omega
  subst this
  rw [List.take_length] at hB
  clear hbx0 hfa ho hBl
  repeat' (first | refine xs ?_ ?_ <;> intros | (refine wn ?_; intro bx hbx; try simp only [fb] at hbx) | (refine next_over hty (Nat.le_refl _) ?_) | refine wj ?_ | simp -dsimp only [↓bp, bq, br, seval, tbCodB, *] | refine wz ?_ | fail)
  exact finishW_some _ (AS.le.refl _) (wbuf_from hB hle0)
theorem reads_pure (hg : GlobC G) (i : Ins) (hi : i.bulk <= 1000000) : Pure Tryz.prog G 20 [i.enc] (rowOf intA (reads i)) :=
 Pure.of_le fun σ => (reads_tri hg i hi σ).wbuf
end
set_option maxRecDepth 20000
section
def tbConF := And.intro (And.intro (And.intro (And.intro @tf3 (And.intro @tf4 @tf5)) (And.intro (And.intro @tf9 @tf30) (And.intro @tf39 @tf23))) (And.intro (And.intro @tf58 (And.intro @tf24 @tf37)) (And.intro (And.intro @tf55 @tf56) (And.intro @tf169 @isv_rowOf)))) (And.intro (And.intro (And.intro @flat_rowOf (And.intro @len_rowOf @ix_rowOf)) (And.intro (And.intro @Term.flat_enc @Term.isv_enc) (And.intro @Term.fold_enc @Ins.flat_enc))) (And.intro (And.intro (And.intro @Ins.isv_enc @Ins.fold_enc) (And.intro @isv_encs @flat_encs)) (And.intro (And.intro @len_encs @ix_encs) (And.intro @isv_lims @flat_lims))))
variable (G : Nat -> AV)
section ix
variable {α : Type}
def ixG (p : α -> Bool) (l : List α) : Int := match l.findIdx? p with
 | some i => i
 | none => -1
theorem ixG_some {p : α -> Bool} {l : List α} {i : Nat} {k : α} (h : l[i]? = some k) (h1 : p k = true) (h2 : ∀ x, x ∈ l.take i -> p x = false) : ixG p l = i := by
 obtain ⟨hi, rfl⟩ := List.getElem?_eq_some_iff.1 h
 have : l.findIdx? p = some i := by
  rw [List.findIdx?_eq_some_iff_getElem]
  refine ⟨hi, h1, fun j hj => ?_⟩
  have := h2 l[j] (by rw [List.mem_take_iff_getElem]; exact ⟨j, by omega, rfl⟩)
  simp [this]
 simp [ixG, this]
theorem ixG_none {p : α -> Bool} {l : List α} (h : ∀ x, x ∈ l -> p x = false) : ixG p l = -1 := by
 have : l.findIdx? p = none := by rw [List.findIdx?_eq_none_iff]; exact h
 simp [ixG, this]
theorem ixG_any (p : α -> Bool) (l : List α) : decide (0 <= ixG p l) = l.any p := by
 by_cases h : l.any p = true
 ·obtain ⟨i, hi⟩ : ∃ i, l.findIdx? p = some i := by
   cases hf : l.findIdx? p with
   | none => rw [List.findIdx?_eq_none_iff] at hf; rw [List.any_eq_true] at h; obtain ⟨x, hx, hp⟩ := h; rw [hf x hx] at hp; cases hp
   | some i => exact ⟨i, rfl⟩
  rw [h]; simp [ixG, hi]
 ·have hf : l.any p = false := by simpa using h
  rw [hf, ixG_none (by simpa using hf)]; rfl
end ix
set_option maxHeartbeats 1000000 in
theorem indexI_purec {f : FuncId} {caps : List AV} {σ0 : AS} (p : Int -> Bool) (l : List Int) (hl : l.length <= 1099511627776) (hf : ∀ x, x ∈ l -> PureC Tryz.prog G f ([intA x] ++ caps) σ0 (.bool (p x))) :
  PureC Tryz.prog G 149 [rowOf (intA) l, .fn f caps] σ0 (.int .i64 (ixG p l)) := by
 intro σ hσ
 refine Tri.of_awp mixed Tryz.func149 rfl (by kernel_rfl) (by kernel_rfl) (by simp [Tryz.ntmps149]) Tryz.results149 ?_
 simp -dsimp only [↓bp, bq, br, seval, tbConF]
 refine loop_intro (fun n e σ' => ∃ i : Nat, i <= l.length /\ n = l.length - i /\ e 8 = .int .i64 i /\ σ' = σ /\ ∀ x, x ∈ l.take i -> p x = false) l.length
  ⟨0, by omega, by omega, by first | (simp -dsimp only [↓bp, bq, br, seval, tbConF]; done) | (simp -dsimp only [↓bp, bq, br, seval, tbConF]; try rfl), rfl, by simp⟩ ?_
 rintro n v σ' ⟨i, hi, rfl, h8, rfl, hno⟩
 simp -dsimp only [↓bp, bq, br, seval, tbConF] at h8
 by_cases hlt : (i : Int) < l.length
 ·obtain ⟨k, hk⟩ : ∃ k, l[i]? = some k := ⟨_, List.getElem?_eq_getElem (by omega)⟩
  have hp := hf k (List.mem_of_getElem? hk)
  have hlt' := eq_true hlt
  have hwi : IntKind.i64.wrap ((i : Int) + 1) = ((i + 1 : Nat) : Int) := by rw [wrap_nat (by omega) (by omega)]; rfl
  clear hf hi hlt
  cases hpk : p k with
  | true =>
   rw [hpk] at hp
   have hix := ixG_some hk hpk hno
   clear hno
   repeat' (first | refine xs ?_ ?_ <;> intros | (refine wn ?_; intro bx hbx; try simp only [fb] at hbx) | refine PureC.use (hp) (by repeat' first | exact lr _ | assumption | refine ls ?_ ?_ | refine lt ?_ ?_ | simp only [*]; done | simp only [fb, *, not_false_eq_true, and_self]; done | exact lf ‹_› (by simp only [*])) ?_ | refine wj ?_ | simp -dsimp only [↓bp, bq, br, seval, tbConF, flat_intA, *] | refine wz ?_ | fail)
   all_goals rw [hix]
  | false =>
   rw [hpk] at hp
   repeat' (first | refine xs ?_ ?_ <;> intros | (refine wn ?_; intro bx hbx; try simp only [fb] at hbx) | refine PureC.use (hp) (by repeat' first | exact lr _ | assumption | refine ls ?_ ?_ | refine lt ?_ ?_ | simp only [*]; done | simp only [fb, *, not_false_eq_true, and_self]; done | exact lf ‹_› (by simp only [*])) ?_ | refine wj ?_ | simp -dsimp only [↓bp, bq, br, seval, tbConF, flat_intA, *] | refine wz ?_ | fail)
   all_goals (have hlt := (List.getElem?_eq_some_iff.1 hk).1)
   all_goals refine ⟨l.length - (i + 1), by omega, i + 1, by omega, rfl, rfl, fun x hx => ?_⟩
   all_goals (rw [take_succ_get _ _ _ hk, List.mem_append, List.mem_singleton] at hx; rcases hx with hx | rfl)
   all_goals first | exact hno _ hx | exact hpk
 ·have : i = l.length := by omega
  subst this
  have hix := ixG_none (p := p) (l := l) fun x hx => hno x (by rw [List.take_length]; exact hx)
  have hlt' := eq_false hlt
  clear hno hf hi hlt
  repeat' (first | refine xs ?_ ?_ <;> intros | (refine wn ?_; intro bx hbx; try simp only [fb] at hbx) | refine wj ?_ | simp -dsimp only [↓bp, bq, br, seval, tbConF, *] | refine wz ?_ | fail)
  all_goals rw [hix]
theorem containsI_purec {f : FuncId} {caps : List AV} {σ0 : AS} (p : Int -> Bool) (l : List Int) (hl : l.length <= 1099511627776) (hf : ∀ x, x ∈ l -> PureC Tryz.prog G f ([intA x] ++ caps) σ0 (.bool (p x))) :
  PureC Tryz.prog G 87 [rowOf (intA) l, .fn f caps] σ0 (.bool (l.any p)) := by
 intro σ hσ
 refine Tri.of_awp mixed Tryz.func87 rfl (by kernel_rfl) (by kernel_rfl) (by simp [Tryz.ntmps87]) Tryz.results87 ?_
 repeat' (first | refine xs ?_ ?_ <;> intros | (refine wn ?_; intro bx hbx; try simp only [fb] at hbx) | refine PureC.use (indexI_purec G p l hl hf) (by repeat' first | exact lr _ | assumption | refine ls ?_ ?_ | refine lt ?_ ?_ | simp only [*]; done | simp only [fb, *, not_false_eq_true, and_self]; done | exact lf ‹_› (by simp only [*])) ?_ | refine wj ?_ | simp -dsimp only [↓bp, bq, br, seval, tbConF, *] | refine wz ?_ | fail)
 all_goals rw [ixG_any]
end
end Go.Proofs.YtjmdaeabllkgnaaGreatDoor
