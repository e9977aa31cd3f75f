/- A term's text: the closures. -/
import Derived.Test.YtjmdaeabllkgnaaGreatDoorY16
import Derived.Test.YtjmdaeabllkgnaaGreatDoorY17
import Derived.Test.YtjmdaeabllkgnaaGreatDoorY18
import Derived.Test.YtjmdaeabllkgnaaGreatDoorY00
import Derived.Test.YtjmdaeabllkgnaaGreatDoorY12
set_option linter.unusedVariables false
set_option linter.unusedSimpArgs false
set_option maxRecDepth 20000
set_option linter.defProp false
namespace Go.Proofs.YtjmdaeabllkgnaaGreatDoor
open Go Go.Av
section
def tbTText := And.intro (And.intro (And.intro (And.intro @tf3 @tf4) (And.intro @tf5 (And.intro @tf9 @tf54))) (And.intro (And.intro @tf55 (And.intro @tf24 @tf58)) (And.intro @tf56 (And.intro @tf147 @tf145)))) (And.intro (And.intro (And.intro @tf148 (And.intro @tf154 @Term.flat_enc)) (And.intro @Term.isv_enc (And.intro @Term.fold_enc @isv_encs))) (And.intro (And.intro @flat_encs (And.intro @len_encs @ix_encs)) (And.intro @ix_encs' (And.intro @isv_lims @flat_lims))))
variable {G : Nat -> AV}
structure GlobT (G : Nat -> AV) : Prop extends Glob G where
 pow : G 4 = .tab powV
structure Fns (σ0 : AS) (b p q : Nat) : Prop where
 put : σ0.box p = some [.fn 123 [.ptr b 0, .ptr q 0]]
 row : σ0.box q = some [.fn 120 [.ptr b 0, .ptr p 0]]
theorem Fns.up {σ0 σ1 : AS} {b p q : Nat} (h : Fns σ0 b p q) (hl : σ0.le σ1) : Fns σ1 b p q := ⟨hl.box _ _ h.put, hl.box _ _ h.row⟩
def Puts (G : Nat -> AV) (t : Term) : Prop := ∀ (σ0 σ : AS) (b p q : Nat) (xs : List UInt8), Fns σ0 b p q -> Bl σ0 σ b xs -> xs.length + (said t).length <= 900000000 ->
 Tri Tryz.prog G 123 [t.enc, .ptr b 0, .ptr q 0] σ fun r σ' => Bl σ0 σ' b (xs ++ said t)
theorem saidN_take : ∀ (l : List Term) (i : Nat) (x : Term), l[i]? = some x -> saidN (l.take (i + 1)) = saidN (l.take i) ++ (44 :: said x)
 | [], i, x, h => by simp at h
 | y :: l, 0, x, h => by simp at h; subst h; simp [saidN]
 | y :: l, i + 1, x, h => by
  have := saidN_take l i x (by simpa using h)
  simp only [List.take_succ_cons, saidN, this]
  simp
theorem saidI_take (l : List Term) (i : Nat) (x : Term) (h : l[i]? = some x) : saidI (l.take (i + 1)) = saidI (l.take i) ++ (if i = 0 then said x else 44 :: said x) := by
 cases l with
 | nil => simp at h
 | cons y l =>
  cases i with
  | zero => simp at h; subst h; simp [saidI, saidN]
  | succ i =>
   have := saidN_take l i x (by simpa using h)
   simp only [List.take_succ_cons, saidI, this]
   simp
theorem saidT_take : ∀ (l : List Term) (i : Nat) (x : Term), l[i]? = some x -> saidT (l.take (i + 1)) = saidT (l.take i) ++ (124 :: said x)
 | [], i, x, h => by simp at h
 | y :: l, 0, x, h => by simp at h; subst h; simp [saidT]
 | y :: l, i + 1, x, h => by
  have := saidT_take l i x (by simpa using h)
  simp only [List.take_succ_cons, saidT, this]
  simp
theorem saidN_le : ∀ (l : List Term) (i : Nat), (saidN (l.take i)).length <= (saidN l).length
 | [], i => by simp
 | x :: l, 0 => by simp [saidN]
 | x :: l, i + 1 => by have := saidN_le l i; simp only [List.take_succ_cons, saidN, List.length_cons, List.length_append]; omega
theorem saidI_le (l : List Term) (i : Nat) : (saidI (l.take i)).length <= (saidI l).length := by
 cases l with
 | nil => simp
 | cons x l => cases i with
  | zero => simp [saidI]
  | succ i => have := saidN_le l i; simp only [List.take_succ_cons, saidI, List.length_append]; omega
theorem saidT_le : ∀ (l : List Term) (i : Nat), (saidT (l.take i)).length <= (saidT l).length
 | [], i => by simp
 | x :: l, 0 => by simp [saidT]
 | x :: l, i + 1 => by have := saidT_le l i; simp only [List.take_succ_cons, saidT, List.length_cons, List.length_append]; omega
set_option maxHeartbeats 1000000 in
theorem row_tri (t : Term) (hb : t.bulk <= 1000000000) (hi : ∀ x, x ∈ t.items -> Puts G x) (ht : ∀ x, x ∈ t.tail -> Puts G x) (fr to : List UInt8) (σ0 σ : AS) (b p q : Nat) (xs : List UInt8) (hF : Fns σ0 b p q) (hB : Bl σ0 σ b xs)
  (hlen : xs.length + fr.length + (saidI t.items).length + (saidT t.tail).length + to.length <= 900000000) :
  Tri Tryz.prog G 120 [t.enc, .str fr, .str to, .ptr b 0, .ptr p 0] σ fun r σ' => Bl σ0 σ' b (xs ++ fr ++ saidI t.items ++ saidT t.tail ++ to) := by
 have hli := len_items t
 have hlt := len_tail t
 refine Tri.of_awp mixed Tryz.func120 rfl (by kernel_rfl) (by kernel_rfl) (by simp [Tryz.ntmps120]) Tryz.results120 ?_
 simp -dsimp only [↓bp, bq, br, seval, tbTText]
 refine newW_intro fun b5 h5 => ?_
 obtain ⟨σ1, hs1⟩ : ∃ σ1, σ1 = σ0.setBox b5 [.int .u8 t.knd, .bool t.neg, lims t.limbs, .str t.text, .int .i64 t.num, encs t.items, encs t.tail] := ⟨_, rfl⟩
 have hB1 := hB.newBox h5 [.int .u8 t.knd, .bool t.neg, lims t.limbs, .str t.text, .int .i64 t.num, encs t.items, encs t.tail]
 rw [<- hs1] at hB1
 have hle1 : σ0.le σ1 := by rw [hs1]; exact (AS.le.refl σ0).setBox (hB.le.fresh h5).1 _
 have hF1 := hF.up hle1
 have hb5 : σ1.box b5 = some [.int .u8 t.knd, .bool t.neg, lims t.limbs, .str t.text, .int .i64 t.num, encs t.items, encs t.tail] := by rw [hs1]; simp [AS.setBox]
 clear hs1
 generalize σ.setBox b5 _ = s0 at *
 repeat' (first | refine xs ?_ ?_ <;> intros | (refine wn ?_; intro bx hbx; try simp only [fb] at hbx) | ((refine Tri.mono (writeString_tri _ hB1 fr (by omega)) ?_; rintro r s1 hB2; have k5 := hB2.le.box b5 _ hb5)) | refine wj ?_ | simp -dsimp only [↓bp, bq, br, seval, tbTText, *] | refine wz ?_ | fail)
 refine loop_intro (fun n e σ' => ∃ i : Nat, i <= t.items.length /\ n = t.items.length - i /\ e 17 = .int .i64 i /\ Bl σ1 σ' b (xs ++ fr ++ saidI (t.items.take i))) t.items.length ⟨0, by omega, by omega, by first | (simp -dsimp only [↓bp, bq, br, seval, tbTText]; done) | (simp -dsimp only [↓bp, bq, br, seval, tbTText]; try rfl), by simpa [saidI] using hB2⟩ ?_
 rintro n v σ' ⟨i, hile, rfl, h17, hBi⟩
 simp -dsimp only [↓bp, bq, br, seval, tbTText] at h17
 by_cases hlt : (i : Int) < t.items.length
 ·obtain ⟨x, hx⟩ : ∃ x, t.items[i]? = some x := ⟨_, List.getElem?_eq_getElem (by omega)⟩
  have hxm : x ∈ t.items := List.mem_of_getElem? hx
  have htk := saidI_take t.items i x hx
  have hl2 := saidI_le t.items (i + 1)
  have hPx := hi x hxm
  have hilt : i < t.items.length := by omega
  have hw : IntKind.i64.wrap ((i : Int) + 1) = ((i + 1 : Nat) : Int) := by rw [wrap_nat (by omega) (by omega)]; rfl
  have hnext : ∀ s2 : AS, Bl σ1 s2 b (xs ++ fr ++ saidI (t.items.take (i + 1))) -> ∃ m, m < t.items.length - i /\ ∃ i_1, i_1 <= t.items.length /\ m = t.items.length - i_1 /\ AV.int .i64 ((i + 1 : Nat) : Int) = .int .i64 i_1 /\ Bl σ1 s2 b (xs ++ fr ++ saidI (t.items.take i_1)) := fun s2 h2 =>
   ⟨t.items.length - (i + 1), by omega, i + 1, by omega, rfl, rfl, h2⟩
  clear hi ht hB hB1 hB2 h5 k5
  simp -dsimp only [↓bp, bq, br, seval, tbTText, h17, hlt, hx]
  refine newT_plain fun b9 h9 => ?_
  have hB9 := hBi.newBox h9 [.int .u8 x.knd, .bool x.neg, lims x.limbs, .str x.text, .int .i64 x.num, encs x.items, encs x.tail]
  have hle2 : σ1.le (σ1.setBox b9 [.int .u8 x.knd, .bool x.neg, lims x.limbs, .str x.text, .int .i64 x.num, encs x.items, encs x.tail]) := (AS.le.refl σ1).setBox (hBi.le.fresh h9).1 _
  have hb9 : (σ1.setBox b9 [.int .u8 x.knd, .bool x.neg, lims x.limbs, .str x.text, .int .i64 x.num, encs x.items, encs x.tail]).box b9 = some [.int .u8 x.knd, .bool x.neg, lims x.limbs, .str x.text, .int .i64 x.num, encs x.items, encs x.tail] := by simp [AS.setBox]
  have hF2 := hF1.up hle2
  generalize σ1.setBox b9 _ = σ2 at *
  simp -dsimp only [↓bp, bq, br, seval, tbTText, h17, hlt, hx]
  generalize σ'.setBox b9 _ = s2 at *
  have h9b : s2.box b9 = some [.int .u8 x.knd, .bool x.neg, lims x.limbs, .str x.text, .int .i64 x.num, encs x.items, encs x.tail] := hB9.le.box _ _ hb9
  have h9p : s2.box p = some [.fn 123 [.ptr b 0, .ptr q 0]] := hB9.le.box _ _ hF2.put
  rw [htk] at hnext hl2
  by_cases i0 : i = 0
  ·rw [if_pos i0] at hnext hl2
   have i0' := eq_false (show ¬ (0 : Int) < i by omega)
   rw [List.length_append] at hl2
   clear i0 hlt hBi
   simp -dsimp only [↓bp, bq, br, seval, tbTText, i0']
   repeat' (first | refine xs ?_ ?_ <;> intros | (refine wn ?_; intro bx hbx; try simp only [fb] at hbx) | ((refine Tri.mono (hPx σ2 s2 b p q _ hF2 hB9 (by simp only [List.length_append]; omega)) ?_; rintro r s3 hB3)) | refine wj ?_ | simp -dsimp only [↓bp, bq, br, seval, tbTText, *] | refine wz ?_ | fail)
   try rw [hw]
   exact hnext _ (by have := hB3.weaken hle2; simpa using this)
  ·rw [if_neg i0] at hnext hl2
   have i0' := eq_true (show (0 : Int) < i by omega)
   rw [List.length_append, List.length_cons] at hl2
   clear i0 hlt hBi
   simp -dsimp only [↓bp, bq, br, seval, tbTText, i0']
   repeat' (first | refine xs ?_ ?_ <;> intros | (refine wn ?_; intro bx hbx; try simp only [fb] at hbx) | ((refine Tri.mono (wb hB9 (by simp only [List.length_append]; omega) 44 44 rfl) ?_; rintro r s3 hB3; have h9b := hB3.le.box _ _ hb9; have h9p := hB3.le.box _ _ hF2.put; clear hB9)) | ((refine Tri.mono (hPx σ2 _ b p q _ hF2 hB3 (by simp only [List.length_append, List.length_cons, List.length_nil]; omega)) ?_; rintro r s4 hB4)) | refine wj ?_ | simp -dsimp only [↓bp, bq, br, seval, tbTText, *] | refine wz ?_ | fail)
   try rw [hw]
   exact hnext _ (by have := hB4.weaken hle2; simpa using this)
 ·have : i = t.items.length := by omega
  subst this
  rw [List.take_length] at hBi
  clear hlt hile hB hB1 hB2 k5 h5
  have k5 := hBi.le.box b5 _ hb5
  have hirr := eq_false (Int.lt_irrefl (t.items.length : Int))
  simp -dsimp only [↓bp, bq, br, seval, tbTText, h17, hirr]
  repeat' (first | refine xs ?_ ?_ <;> intros | (refine wn ?_; intro bx hbx; try simp only [fb] at hbx) | refine wj ?_ | simp -dsimp only [↓bp, bq, br, seval, tbTText, *] | refine wz ?_ | fail)
  have hIx : (saidI t.items).length <= 900000000 := by omega
  refine loop_intro (fun n e σ' => ∃ i : Nat, i <= t.tail.length /\ n = t.tail.length - i /\ e 32 = .int .i64 i /\ Bl σ1 σ' b (xs ++ fr ++ saidI t.items ++ saidT (t.tail.take i))) t.tail.length ⟨0, by omega, by omega, by first | (simp -dsimp only [↓bp, bq, br, seval, tbTText]; done) | (simp -dsimp only [↓bp, bq, br, seval, tbTText]; try rfl), by simpa [saidT] using hBi⟩ ?_
  clear hBi k5 h17
  rintro n v2 σ3 ⟨i, hile, rfl, h32, hBi⟩
  simp -dsimp only [↓bp, bq, br, seval, tbTText] at h32
  by_cases hlt : (i : Int) < t.tail.length
  ·obtain ⟨x, hx⟩ : ∃ x, t.tail[i]? = some x := ⟨_, List.getElem?_eq_getElem (by omega)⟩
   have hxm : x ∈ t.tail := List.mem_of_getElem? hx
   have htk := saidT_take t.tail i x hx
   have hl2 := saidT_le t.tail (i + 1)
   have hPx := ht x hxm
   have hilt : i < t.tail.length := by omega
   have hw : IntKind.i64.wrap ((i : Int) + 1) = ((i + 1 : Nat) : Int) := by rw [wrap_nat (by omega) (by omega)]; rfl
   have hnext : ∀ s2 : AS, Bl σ1 s2 b (xs ++ fr ++ saidI t.items ++ saidT (t.tail.take (i + 1))) -> ∃ m, m < t.tail.length - i /\ ∃ i_1, i_1 <= t.tail.length /\ m = t.tail.length - i_1 /\ AV.int .i64 ((i + 1 : Nat) : Int) = .int .i64 i_1 /\ Bl σ1 s2 b (xs ++ fr ++ saidI t.items ++ saidT (t.tail.take i_1)) := fun s2 h2 =>
    ⟨t.tail.length - (i + 1), by omega, i + 1, by omega, rfl, rfl, h2⟩
   clear hi ht
   simp -dsimp only [↓bp, bq, br, seval, tbTText, h32, hlt, hx]
   refine newT_plain fun b9 h9 => ?_
   have hB9 := hBi.newBox h9 [.int .u8 x.knd, .bool x.neg, lims x.limbs, .str x.text, .int .i64 x.num, encs x.items, encs x.tail]
   have hle2 : σ1.le (σ1.setBox b9 [.int .u8 x.knd, .bool x.neg, lims x.limbs, .str x.text, .int .i64 x.num, encs x.items, encs x.tail]) := (AS.le.refl σ1).setBox (hBi.le.fresh h9).1 _
   have hb9 : (σ1.setBox b9 [.int .u8 x.knd, .bool x.neg, lims x.limbs, .str x.text, .int .i64 x.num, encs x.items, encs x.tail]).box b9 = some [.int .u8 x.knd, .bool x.neg, lims x.limbs, .str x.text, .int .i64 x.num, encs x.items, encs x.tail] := by simp [AS.setBox]
   have hF2 := hF1.up hle2
   generalize σ1.setBox b9 _ = σ2 at *
   simp -dsimp only [↓bp, bq, br, seval, tbTText, h32, hlt, hx]
   generalize σ3.setBox b9 _ = s2 at *
   have h9b : s2.box b9 = some [.int .u8 x.knd, .bool x.neg, lims x.limbs, .str x.text, .int .i64 x.num, encs x.items, encs x.tail] := hB9.le.box _ _ hb9
   have h9p : s2.box p = some [.fn 123 [.ptr b 0, .ptr q 0]] := hB9.le.box _ _ hF2.put
   rw [htk] at hnext hl2
   rw [List.length_append, List.length_cons] at hl2
   clear hlt hBi
   repeat' (first | refine xs ?_ ?_ <;> intros | (refine wn ?_; intro bx hbx; try simp only [fb] at hbx) | ((refine Tri.mono (wb hB9 (by simp only [List.length_append]; omega) 124 124 rfl) ?_; rintro r s3 hB3; have h9b := hB3.le.box _ _ hb9; have h9p := hB3.le.box _ _ hF2.put; clear hB9)) | ((refine Tri.mono (hPx σ2 _ b p q _ hF2 hB3 (by simp only [List.length_append, List.length_cons, List.length_nil]; omega)) ?_; rintro r s4 hB4)) | refine wj ?_ | simp -dsimp only [↓bp, bq, br, seval, tbTText, *] | refine wz ?_ | fail)
   try rw [hw]
   exact hnext _ (by have := hB4.weaken hle2; simpa using this)
  ·have : i = t.tail.length := by omega
   subst this
   rw [List.take_length] at hBi
   clear hlt hile hi ht
   have hirr2 := eq_false (Int.lt_irrefl (t.tail.length : Int))
   simp -dsimp only [↓bp, bq, br, seval, tbTText, h32, hirr2]
   repeat' (first | refine xs ?_ ?_ <;> intros | (refine wn ?_; intro bx hbx; try simp only [fb] at hbx) | ((refine Tri.mono (writeString_tri _ hBi to (by simp only [List.length_append]; omega)) ?_; rintro r s3 hB3)) | refine wj ?_ | simp -dsimp only [↓bp, bq, br, seval, tbTText, *] | refine wz ?_ | fail)
   exact finishW_some _ (AS.le.refl _) (hB3.weaken hle1)
end
set_option maxRecDepth 20000
section
variable {G : Nat -> AV}
theorem right_num {t : Term} (h : right t = true) (hk : t.knd = 3 \/ t.knd = 4 \/ t.knd = 5) : 0 <= t.num /\ t.num <= 1099511627776 := by
 simp only [right, decide_eq_true_eq] at h
 rw [size_eq, if_neg (by omega)] at h
 split at h
 ·rename_i hf
  obtain ⟨f1, _⟩ := adds_true _ _ hf
  obtain ⟨f3, _⟩ := adds_true _ _ f1
  simp only at f3
  unfold head at f3
  rw [if_neg (by omega)] at f3
  by_cases e3 : t.knd = 3 \/ t.knd = 5
  ·rw [if_pos e3] at f3
   simp only [Bool.and_eq_true, decide_eq_true_eq] at f3
   omega
  ·rw [if_neg e3, if_pos (by omega)] at f3
   simp only [Bool.and_eq_true, decide_eq_true_eq] at f3
   omega
 ·omega
end
set_option maxRecDepth 20000
section
variable {G : Nat -> AV}
theorem saidN_len : ∀ (l : List Term), (∀ x, x ∈ l -> (said x).length + 1 <= 400 * x.bulk) -> (saidN l).length <= 400 * bulks l
 | [], _ => by simp [saidN, bulks]
 | x :: l, h => by
  have h1 := h x (by simp)
  have h2 := saidN_len l fun y hy => h y (by simp [hy])
  simp only [saidN, List.length_cons, List.length_append, bulks]; omega
theorem saidI_len (l : List Term) (h : ∀ x, x ∈ l -> (said x).length + 1 <= 400 * x.bulk) : (saidI l).length <= 400 * bulks l := by
 cases l with
 | nil => simp [saidI, bulks]
 | cons x l =>
  have h1 := h x (by simp)
  have h2 := saidN_len l fun y hy => h y (by simp [hy])
  simp only [saidI, List.length_append, bulks]; omega
theorem saidT_len : ∀ (l : List Term), (∀ x, x ∈ l -> (said x).length + 1 <= 400 * x.bulk) -> (saidT l).length <= 400 * bulks l
 | [], _ => by simp [saidT, bulks]
 | x :: l, h => by
  have h1 := h x (by simp)
  have h2 := saidT_len l fun y hy => h y (by simp [hy])
  simp only [saidT, List.length_cons, List.length_append, bulks]; omega
theorem decT_len {k n : Nat} (hk : 0 < k) (h : n < 10 ^ k) : (decT n).length <= k := by
 unfold decT
 split
 ·simp; omega
 ·rw [List.length_reverse]; exact digs_len k n h
theorem itoa_len {n : Int} (h0 : 0 <= n) (h1 : n <= 1099511627776) : (itoa n).length <= 20 := by
 unfold itoa
 rw [if_neg (by omega)]
 have := decT_len (k := 20) (n := n.natAbs) (by omega) (by have : (10 : Nat) ^ 20 = 100000000000000000000 := by decide
                                                           omega)
 simpa using this
theorem said_len (t : Term) : right t = true -> (said t).length + 1 <= 400 * t.bulk := by
 refine Term.ind (P := fun t => right t = true -> (said t).length + 1 <= 400 * t.bulk) (fun t ih1 ih2 hr => ?_) t
 have A := right_spec hr
 have h1 := saidI_len t.items fun x hx => ih1 x hx (A.items x hx)
 have h2 := saidT_len t.tail fun x hx => ih2 x hx (A.tail x hx)
 have hb := t.bulk_eq
 rw [said_eq]
 by_cases e1 : t.knd = 1
 ·rw [if_pos e1]
  obtain ⟨_, _, h32⟩ := wr_int (A.int e1)
  have hd := dig_bound h32
  unfold wsaid decT
  simp only [List.length_append]
  split <;> split <;> simp only [List.length_cons, List.length_nil, List.length_reverse] <;> omega
 rw [if_neg e1]
 by_cases e2 : t.knd = 2
 ·rw [if_pos e2]
  have hq := quoCs_len t.text
  unfold atomT
  split
  ·omega
  ·simp only [quoted, List.length_cons, List.length_append, List.length_nil]; omega
 rw [if_neg e2]
 by_cases e3 : t.knd = 3
 ·rw [if_pos e3]
  obtain ⟨n0, n1⟩ := right_num hr (.inl e3)
  have := itoa_len n0 n1
  simp only [List.length_append, List.length_cons, List.length_nil]; omega
 rw [if_neg e3]
 by_cases e4 : t.knd = 4
 ·rw [if_pos e4]
  obtain ⟨n0, n1⟩ := right_num hr (.inr (.inl e4))
  have := itoa_len n0 n1
  simp only [List.length_append, List.length_cons, List.length_nil]; omega
 rw [if_neg e4]
 by_cases e5 : t.knd = 5
 ·rw [if_pos e5]
  obtain ⟨n0, n1⟩ := right_num hr (.inr (.inr e5))
  have := itoa_len n0 n1
  simp only [List.length_append, List.length_cons, List.length_nil]; omega
 rw [if_neg e5]
 split <;> simp only [List.length_append, List.length_cons, List.length_nil] <;> omega
end
set_option maxRecDepth 20000
section
open Go Go.Av Go.RowKit
variable {G : Nat -> AV}
theorem vrl_twoC {K : Ctx} {s t : List UInt8} {l : List Value} (h : VRl K [.str s, .str t] l) : l = [.string ⟨⟨s⟩⟩, .string ⟨⟨t⟩⟩] := by
 match l, h with
 | [a, b], ⟨h1, h2, _⟩ => rw [VR.str_iff] at h1 h2; rw [h1, h2]
theorem containsC_pure (hm : ∃ m, G 2 = .rp [.int .i64 m]) (s t : List UInt8) (hs : s.length < 4294967281) : Pure Tryz.prog G 40 [.str s, .str t] (.bool (Lib.contains s t)) := by
 obtain ⟨m, hm⟩ := hm
 refine Pure.of_calls (vals := [.string ⟨⟨s⟩⟩, .string ⟨⟨t⟩⟩]) (u := .bool (Lib.contains s t)) (by kernel_rfl) (fun K l h => vrl_twoC h) (fun K => .bool _) (fun K σ w hr => ?_)
 have hg := hr.glob 2
 rw [hm] at hg
 have hc : w.cell? ⟨2, 0, none⟩ = some (.int .i64 m) := by
  cases hg with
  | rp _ b off f h1 himm hv =>
   have h2 := hr.imm _ _ _ (himm 0 (by simp))
   have h3 := hv 0 (by simp)
   simp only [List.getElem_cons_zero, VR.int_iff] at h3
   rw [h3] at h2
   exact h2
 exact (Tryz.strings_Contains ⟨⟨s⟩⟩ ⟨⟨t⟩⟩ m w (by show s.length < _; exact hs) hc).mono fun e w' ⟨he, hw⟩ => ⟨he, by subst hw; exact Below.refl _ _⟩
variable (G)
theorem prefixC_pure (s t : List UInt8) : Pure Tryz.prog G 61 [.str s, .str t] (.bool (t.isPrefixOf s)) := by
 refine Pure.of_calls (vals := [.string ⟨⟨s⟩⟩, .string ⟨⟨t⟩⟩]) (u := .bool (t.isPrefixOf s)) (by kernel_rfl) (fun K l h => vrl_twoC h) (fun K => .bool _) (fun K σ w hr => ?_)
 exact (Tryz.strings_HasPrefix ⟨⟨s⟩⟩ ⟨⟨t⟩⟩ w).mono fun e w' ⟨he, hw⟩ => ⟨he, by subst hw; exact Below.refl _ _⟩
end
section
section rows
variable {α : Type}
def rowOf (enc : α -> AV) (l : List α) : AV := .sl .none (l.map enc) []
instance {enc : α -> AV} {l : List α} : NotBs (rowOf enc l) := ⟨fun _ _ _ _ h => by unfold rowOf at h; cases h⟩
theorem isv_rowOf (enc : α -> AV) (l : List α) : isv (rowOf enc l) = true := rfl
theorem flat_rowOf (enc : α -> AV) (l : List α) : flat (rowOf enc l) = [rowOf enc l] := rfl
theorem len_rowOf {P : Program} {t : TypeId} (enc : α -> AV) (l : List α) : ablt P .len #[t] [rowOf enc l] = if (el P t).isSome then some (.int .i64 l.length) else none := by
 simp [rowOf, l_sl]
theorem ix_rowOf {P : Program} {t : TypeId} {k : IntKind} (enc : α -> AV) (l : List α) (i : Nat) : aindexA P t (rowOf enc l) (.int k (i : Int)) = ixk ((el P t).bind (tk P)) ((l[i]?).map enc) := by
 simp [rowOf, aindexA_sl]
theorem flat_all {enc : α -> AV} {n : Nat} (hn : ∀ x, (flat (enc x)).length = n) (l : List α) : ∀ a, a ∈ l.map enc -> (flat a).length = n := fun a ha => by
 obtain ⟨x, _, rfl⟩ := List.mem_map.1 ha; exact hn x
theorem sl_rowOf {P : Program} {t : TypeId} {ag : Bool} {n : Nat} {enc : α -> AV} (hn : ∀ x, (flat (enc x)).length = n) (l : List α) (lo hi : Option AV) (ht : ((el P t).bind (tk P)) = some (ag, n)) : aslice P t (rowOf enc l) lo hi = match abnd lo 0, abnd hi l.length with
  | some a, some b => if a <= b /\ b <= l.length then some (rowOf enc ((l.take b).drop a)) else none
  | _, _ => none := by
 unfold rowOf
 rw [aslice_sl, ht, List.length_map]
 cases abnd lo 0 with
 | none => cases abnd hi l.length <;> rfl
 | some a =>
  cases abnd hi l.length with
  | none => rfl
  | some b =>
   rw [slk_plain (flat_all hn l)]
   simp only [List.length_map, List.map_drop, List.map_take]
theorem asrc_rowOf {P : Program} {t e : TypeId} {enc : α -> AV} {l : List α} (h : el P t = some e) : asrc P t (rowOf enc l) = some (l.map enc) := asrc_sl h
def bulkL (f : α -> Nat) : List α -> Nat
 | [] => 0
 | x :: l => f x + bulkL f l
theorem bulkL_mem {f : α -> Nat} {l : List α} {x : α} (h : x ∈ l) : f x <= bulkL f l := by
 induction l with
 | nil => cases h
 | cons y l ih =>
  simp only [bulkL]
  rcases List.mem_cons.1 h with rfl | h
  ·omega
  ·have := ih h; omega
theorem len_bulkL {f : α -> Nat} (hf : ∀ x, 1 <= f x) (l : List α) : l.length <= bulkL f l := by
 induction l with
 | nil => simp [bulkL]
 | cons y l ih => have := hf y; simp only [List.length_cons, bulkL]; omega
theorem bulks_L (l : List Term) : bulks l = bulkL Term.bulk l := by
 induction l with
 | nil => rfl
 | cons x l ih => simp only [bulks, bulkL, ih]
end rows
def intA (n : Int) : AV := .int .i64 n
theorem flat_intA (n : Int) : flat (intA n) = [.int .i64 n] := rfl
instance : DecidableEq Term := fun a b => decidable_of_iff _ (same_iff a b)
theorem same_dec (a b : Term) : same a b = decide (a = b) := by
 rw [Bool.eq_iff_iff, same_iff, decide_eq_true_eq]
theorem sames_deq (a b : List Term) : sames a b = decide (a = b) := by
 rw [Bool.eq_iff_iff, sames_iff, decide_eq_true_eq]
def i64R (n : Int) : Prop := -9223372036854775808 <= n /\ n <= 9223372036854775807
theorem u8_ne {x y : UInt8} : ((x.toNat : Int) = (y.toNat : Int)) ↔ x = y := by
 constructor
 ·intro h; exact UInt8.toNat_inj.1 (by omega)
 ·rintro rfl; rfl
end
section
structure Ent where
 name : List UInt8
 arity : Int
 extra : Int
 slots : Int
 pos : Int
 deriving DecidableEq
def Ent.enc (x : Ent) : AV := .agg [.str x.name, .int .i64 x.arity, .int .i64 x.extra, .int .i64 x.slots, .int .i64 x.pos]
theorem Ent.flat_enc (x : Ent) : flat x.enc = [.str x.name, .int .i64 x.arity, .int .i64 x.extra, .int .i64 x.slots, .int .i64 x.pos] := by simp only [Ent.enc, flat]
theorem Ent.isv_enc (x : Ent) : isv x.enc = true := by simp only [Ent.enc, isv]
theorem Ent.fold_enc (x : Ent) : AV.agg [.str x.name, .int .i64 x.arity, .int .i64 x.extra, .int .i64 x.slots, .int .i64 x.pos] = x.enc := by simp only [Ent.enc]
def Ent.bulk (x : Ent) : Nat := x.name.length + 1
theorem Ent.bulk_pos (x : Ent) : 1 <= x.bulk := by unfold Ent.bulk; omega
structure Ent.Rng (x : Ent) : Prop where
 arity : i64R x.arity
 extra : i64R x.extra
 slots : i64R x.slots
 pos : i64R x.pos
theorem Ent.eq_parts (x y : Ent) : decide (x = y) = (decide (x.name = y.name) && decide (x.arity = y.arity) && decide (x.extra = y.extra) && decide (x.slots = y.slots) && decide (x.pos = y.pos)) := by
 cases x; cases y
 rw [Bool.eq_iff_iff]
 simp only [decide_eq_true_eq, Bool.and_eq_true, beq_iff_eq, Ent.mk.injEq, and_assoc]
structure Ins where
 op : UInt8
 a : Int
 b : Int
 c : Int
 n : Int
 l : Int
 text : List UInt8
 slots : List Int
 deriving DecidableEq
def Ins.opI (x : Ins) : Int := x.op.toNat
def Ins.enc (x : Ins) : AV := .agg [.int .u8 x.opI, .int .i64 x.a, .int .i64 x.b, .int .i64 x.c, .int .i64 x.n, .int .i64 x.l, .str x.text, rowOf intA x.slots]
theorem Ins.flat_enc (x : Ins) : flat x.enc = [.int .u8 x.opI, .int .i64 x.a, .int .i64 x.b, .int .i64 x.c, .int .i64 x.n, .int .i64 x.l, .str x.text, rowOf intA x.slots] := by simp only [Ins.enc, flat]
theorem Ins.isv_enc (x : Ins) : isv x.enc = true := by simp only [Ins.enc, isv]
theorem Ins.fold_enc (x : Ins) : AV.agg [.int .u8 x.opI, .int .i64 x.a, .int .i64 x.b, .int .i64 x.c, .int .i64 x.n, .int .i64 x.l, .str x.text, rowOf intA x.slots] = x.enc := by simp only [Ins.enc]
theorem Ins.len_flat (x : Ins) : (flat x.enc).length = 8 := by rw [x.flat_enc]; rfl
theorem Ins.ones (x : Ins) : ∀ d, d ∈ flat x.enc -> Av.one d = true := fun d hd => by rw [x.flat_enc] at hd; simp at hd; rcases hd with rfl | rfl | rfl | rfl | rfl | rfl | rfl | rfl <;> rfl
def Ins.bulk (x : Ins) : Nat := x.text.length + x.slots.length + 1
theorem Ins.bulk_pos (x : Ins) : 1 <= x.bulk := by unfold Ins.bulk; omega
structure Ins.Rng (x : Ins) : Prop where
 a : i64R x.a
 b : i64R x.b
 c : i64R x.c
 n : i64R x.n
 l : i64R x.l
 slots : ∀ n, n ∈ x.slots -> i64R n
theorem Ins.eq_parts (x y : Ins) : decide (x = y) = (decide (x.opI = y.opI) && decide (x.a = y.a) && decide (x.b = y.b) && decide (x.c = y.c) && decide (x.n = y.n) && decide (x.l = y.l) && decide (x.text = y.text) && decide (x.slots = y.slots)) := by
 cases x; cases y
 rw [Bool.eq_iff_iff]
 simp only [Ins.opI, u8_ne, decide_eq_true_eq, Bool.and_eq_true, beq_iff_eq, Ins.mk.injEq, and_assoc]
structure Cod where
 entries : List Ent
 instrs : List Ins
 consts : List Term
 deriving DecidableEq
def Cod.enc (x : Cod) : AV := .agg [rowOf Ent.enc x.entries, rowOf Ins.enc x.instrs, encs x.consts]
theorem Cod.flat_enc (x : Cod) : flat x.enc = [rowOf Ent.enc x.entries, rowOf Ins.enc x.instrs, encs x.consts] := by simp only [Cod.enc, flat]
theorem Cod.isv_enc (x : Cod) : isv x.enc = true := by simp only [Cod.enc, isv]
theorem Cod.fold_enc (x : Cod) : AV.agg [rowOf Ent.enc x.entries, rowOf Ins.enc x.instrs, encs x.consts] = x.enc := by simp only [Cod.enc]
def Cod.bulk (x : Cod) : Nat := bulkL Ent.bulk x.entries + bulkL Ins.bulk x.instrs + bulks x.consts + 1
structure Cod.Rng (x : Cod) : Prop where
 entries : ∀ e, e ∈ x.entries -> e.Rng
 instrs : ∀ e, e ∈ x.instrs -> e.Rng
theorem Cod.eq_parts (x y : Cod) : decide (x = y) = (decide (x.entries = y.entries) && decide (x.instrs = y.instrs) && decide (x.consts = y.consts)) := by
 cases x; cases y
 rw [Bool.eq_iff_iff]
 simp only [decide_eq_true_eq, Bool.and_eq_true, beq_iff_eq, Cod.mk.injEq, and_assoc]
end
end Go.Proofs.YtjmdaeabllkgnaaGreatDoor
