/- Whether rows of terms, and the rows within them, lie apart, by the kit's bag: they do, where each has memory of its own. -/
import Derived.Test.YtdhbdhopnpmboaaGreatDoorZ17
import Derived.Test.YtdhbdhopnpmboaaGreatDoorZ18
import Derived.Test.YtdhbdhopnpmboaaGreatDoorZ07
import Derived.Test.YtdhbdhopnpmboaaGreatDoorZ16
import Derived.Test.YtdhbdhopnpmboaaGreatDoorZ06
import Derived.Test.YtdhbdhopnpmboaaGreatDoorZ12
import Derived.Test.YtdhbdhopnpmboaaGreatDoorZ13
set_option linter.unusedVariables false
set_option linter.unusedSimpArgs false
set_option maxRecDepth 20000
set_option linter.defProp false
namespace Go.Proofs.YtdhbdhopnpmboaaGreatDoor
open Go Go.Av
section
def tbApT := And.intro (And.intro (And.intro @tf3 (And.intro @tf4 @tf9)) (And.intro (And.intro @tf5 @tf47) (And.intro @tf22 @tf23))) (And.intro (And.intro (And.intro @tf73 @tf24) (And.intro @tf36 @tf26)) (And.intro (And.intro @tf93 @tf72) (And.intro @isv_rowA @flat_rowA)))
variable (G : Nat -> AV)
structure BagT2 (σ0 σ : AS) (b : Nat) (xs ys : List Row) : Prop where
 fr : σ0.fresh b
 ex : ∃ vl vt, σ.box b = some [vl, .nil, .nil, .nil, .nil, .nil, .nil, vt, .nil, .nil, .nil, .nil, .nil, .nil, .nil, .nil, .nil, .nil, .nil, .nil] /\ Buf 1 σ0 σ vl (xs.map (rowA 1 47)) /\ Buf 1 σ0 σ vt (ys.map (rowA 7 26)) /\ apartO vl vt
theorem BagT2.le {σ0 σ : AS} {b : Nat} {xs ys : List Row} (h : BagT2 σ0 σ b xs ys) : σ0.le σ := by
 obtain ⟨vl, vt, _, h2, _⟩ := h.ex; exact h2.le
def KeepX (b : Nat) (σ σ' : AS) : Prop := ∀ c z, c ≠ b -> σ.box c = some z -> σ'.box c = some z
theorem KeepX.refl (b : Nat) (σ : AS) : KeepX b σ σ := fun _ _ _ h => h
theorem KeepX.trans {b : Nat} {σ1 σ2 σ3 : AS} (h : KeepX b σ1 σ2) (k : KeepX b σ2 σ3) : KeepX b σ1 σ3 := fun c z hc hz => k c z hc (h c z hc hz)
theorem BagT2.newBox {σ0 σ : AS} {b : Nat} {xs ys : List Row} (h : BagT2 σ0 σ b xs ys) {c : Nat} (hc : σ.fresh c) (z : List AV) : BagT2 σ0 (σ.setBox c z) b xs ys := by
 obtain ⟨hfr, vl, vt, hb, hB, hT, ha⟩ := h
 have hne : b ≠ c := fun e => by rw [e, hc.1] at hb; cases hb
 exact ⟨hfr, vl, vt, by simp only [AS.setBox, if_neg hne]; exact hb, hB.newBox hc z, hT.newBox hc z, ha⟩
theorem buf_rowT {n : Nat} {σ0 σ : AS} {v : AV} {l : List AV} (h : Buf n σ0 σ v l) : Av.one v = true /\ flat v = [v] /\ isv v = true := by cases h <;> exact ⟨rfl, rfl, rfl⟩
theorem Buf.setT {n : Nat} {σ0 σ : AS} {v : AV} {l : List AV} (h : Buf n σ0 σ v l) {b : Nat} (hb : σ0.fresh b) (x : List AV) : Buf n σ0 (σ.setBox b x) v l := by
 cases h with
 | nil h => exact .nil (le_set hb h)
 | own b' xs h h0 ht hx => exact .own b' l (le_set hb h) h0 (by simpa [AS.setBox] using ht) hx
theorem flRE : el Tryz.prog 73 = some 23 := tf73.2.2.2.1
theorem ftRE : el Tryz.prog 36 = some 24 := tf36.2.2.2.1
theorem one_cellL {r : Row} : (flat (rowA 1 47 r)).length = 1 := by rw [flat_rowA]; rfl
theorem one_cellT {r : Row} : (flat (rowA 7 26 r)).length = 1 := by rw [flat_rowA]; rfl
theorem putLimbs_tri (xs ys : List Row) (r : Row) (σ0 σ : AS) (b : Nat) (hn : xs.length <= 1000000) (h : BagT2 σ0 σ b xs ys) :
  Tri Tryz.prog G 128 [.ptr b 0, rowA 1 47 r] σ fun x σ' => x = .tup [] /\ BagT2 σ0 σ' b (xs ++ [r]) ys /\ KeepX b σ σ' := by
 obtain ⟨hfr, vl, vt, hb, hB, hT, ha⟩ := h
 obtain ⟨o1, o2, o3⟩ := buf_rowT hB
 obtain ⟨u1, u2, u3⟩ := buf_rowT hT
 refine Tri.of_awp mixed Tryz.func128 rfl (by kernel_rfl) (by kernel_rfl) (by simp [Tryz.ntmps128]) Tryz.results128 ?_
 repeat' (first | refine xs ?_ ?_ <;> intros | (refine wn ?_; intro bx hbx; try simp only [fb] at hbx) | (refine build_one flR (a := rowA 1 47 r) (isv_rowA _ _ _) one_cellL (by omega) ?_) | (refine app_buf2 (ys := [rowA 1 47 r]) hB hT ha flR (asrc_sl flRE) (fun a ha => by simp at ha; subst ha; exact one_cellL) (by simp; omega) (fun v3 σ3 hB4 hT4 ha4 hx4 => ?_)) | refine wj ?_ | simp -dsimp only [↓bp, bq, br, seval, tbApT, *] | refine wz ?_ | fail)
 obtain ⟨p1, p2, p3⟩ := buf_rowT hB4
 refine ⟨⟨p3, by rw [p2]; rfl⟩, ?_⟩
 rw [p2]
 refine finishW_some _ (AS.le.refl _) ⟨rfl, ⟨hfr, v3, vt, by simp [AS.setBox], ?_, Buf.setT hT4 hfr _, ha4⟩, fun c z hc hz => by simp only [AS.setBox, if_neg hc, hx4]; exact hz⟩
 rw [List.map_append]
 exact Buf.setT hB4 hfr _
def PTri (G : Nat -> AV) (σ0 : AS) (b : Nat) (t : Term) : Prop := ∀ (v : AV) (Ls Ts : List Row), PutT σ0 t v Ls Ts -> ∀ (σ : AS) (xs ys : List Row), xs.length + Ls.length <= 1000000 -> ys.length + Ts.length <= 1000000 -> BagT2 σ0 σ b xs ys ->
  Tri Tryz.prog G 88 [.ptr b 0, v] σ fun r σ' => r = .tup [] /\ BagT2 σ0 σ' b (xs ++ Ls) (ys ++ Ts) /\ KeepX b σ σ'
set_option maxHeartbeats 2000000 in
theorem putTs_tri (σ0 : AS) (b : Nat) (ks : List Term) (hkl : ks.length <= 1000000000) (hP : ∀ t, t ∈ ks -> PTri G σ0 b t) (v : AV) (Lk : List Row) (r : Row) (Tk : List Row) (hR : PutR σ0 ks v Lk r Tk) (σ : AS) (xs ys : List Row) (hx : xs.length + Lk.length <= 1000000) (hy : ys.length + Tk.length + 1 <= 1000000) (h : BagT2 σ0 σ b xs ys) :
  Tri Tryz.prog G 59 [.ptr b 0, v] σ fun x σ' => x = .tup [] /\ BagT2 σ0 σ' b (xs ++ Lk) (ys ++ (r :: Tk)) /\ KeepX b σ σ' := by
 obtain ⟨rfl, hrl, hR⟩ := hR
 obtain ⟨hfr, vl, vt, hb, hB, hT, ha⟩ := h
 obtain ⟨o1, o2, o3⟩ := buf_rowT hB
 obtain ⟨u1, u2, u3⟩ := buf_rowT hT
 have hl := fun {t : TypeId} => l_row (P := Tryz.prog) (t := t) (s := 7) (E := 26) r
 rw [hrl] at hl
 refine Tri.of_awp mixed Tryz.func59 rfl (by kernel_rfl) (by kernel_rfl) (by simp [Tryz.ntmps59]) Tryz.results59 ?_
 repeat' (first | (refine wn ?_; intro bx hbx; try simp only [fb] at hbx) | (refine build_one ftR (a := rowA 7 26 r) (isv_rowA _ _ _) one_cellT (by omega) ?_) | (refine app_buf2 (ys := [rowA 7 26 r]) hT hB ha.symm ftR (asrc_sl ftRE) (fun a ha => by simp at ha; subst ha; exact one_cellT) (by simp; omega) (fun v3 σ3 hT4 hB4 ha4 hx4 => ?_)) | refine wj ?_ | simp -dsimp only [↓bp, bq, br, seval, tbApT, *] | refine wz ?_ | fail)
 obtain ⟨p1, p2, p3⟩ := buf_rowT hT4
 refine ⟨⟨p3, by rw [p2]; rfl⟩, ?_⟩
 rw [p2]
 have hS0 : BagT2 σ0 (σ3.setBox b [vl, .nil, .nil, .nil, .nil, .nil, .nil, v3, .nil, .nil, .nil, .nil, .nil, .nil, .nil, .nil, .nil, .nil, .nil, .nil]) b xs (ys ++ [r]) := ⟨hfr, vl, v3, by simp [AS.setBox], Buf.setT hB4 hfr _, by rw [List.map_append]; exact Buf.setT hT4 hfr _, ha4.symm⟩
 have hk0 : KeepX b σ (σ3.setBox b [vl, .nil, .nil, .nil, .nil, .nil, .nil, v3, .nil, .nil, .nil, .nil, .nil, .nil, .nil, .nil, .nil, .nil, .nil, .nil]) := fun c z hc hz => by simp only [AS.setBox, if_neg hc, hx4]; exact hz
 clear hB hT ha hB4 hT4 ha4 hb hx4 o1 o2 o3 u1 u2 u3 p1 p2 p3
 (try simp only [List.cons_append, List.nil_append])
 generalize σ3.setBox b [vl, .nil, .nil, .nil, .nil, .nil, .nil, v3, .nil, .nil, .nil, .nil, .nil, .nil, .nil, .nil, .nil, .nil, .nil, .nil] = s1 at hS0 hk0 ⊢
 rcases hR with ⟨rfl, rfl, rfl⟩ | ⟨b', cs, rest, rfl, hb', hC⟩
 ·have hks : ks.length = 0 := hrl.symm
  rw [hks] at hl
  refine loop_intro (fun n e σ' => n = 0 /\ e 4 = .int .i64 0 /\ BagT2 σ0 σ' b xs (ys ++ [none]) /\ KeepX b σ σ') 0 ⟨rfl, by first | (simp -dsimp only [↓bp, bq, br, seval, tbApT]; done) | (simp -dsimp only [↓bp, bq, br, seval, tbApT]; try rfl), hS0, hk0⟩ ?_
  rintro n e s2 ⟨rfl, h4, hB, hk2⟩
  simp -dsimp only [↓bp, bq, br, seval, tbApT] at h4
  clear hP hS0
  repeat' (first | (refine wn ?_; intro bx hbx; try simp only [fb] at hbx) | refine wj ?_ | simp -dsimp only [↓bp, bq, br, seval, tbApT, *] | refine wz ?_ | fail)
  all_goals exact finishW_some _ (AS.le.refl _) ⟨rfl, by simpa using hB, hk2⟩
 ·refine loop_intro (fun n e σ' => ∃ (i : Nat) (L1 T1 L2 T2 : List Row), i <= ks.length /\ n = ks.length - i /\ e 4 = .int .i64 i /\ Lk = L1 ++ L2 /\ Tk = T1 ++ T2 /\ PutCs σ0 (ks.drop i) (cs.drop (i * 7)) L2 T2 /\ BagT2 σ0 σ' b (xs ++ L1) (ys ++ [some (b', ks.length)] ++ T1) /\ KeepX b σ σ') ks.length
   ⟨0, [], [], Lk, Tk, by omega, by omega, by first | (simp -dsimp only [↓bp, bq, br, seval, tbApT]; done) | (simp -dsimp only [↓bp, bq, br, seval, tbApT]; try rfl), rfl, rfl, by simpa using hC, by simpa using hS0, hk0⟩ ?_
  clear hS0 hC hk0
  rintro n e s2 ⟨i, L1, T1, L2, T2, hi, rfl, h4, rfl, rfl, hC, hB, hk2⟩
  simp -dsimp only [↓bp, bq, br, seval, tbApT] at h4
  have hbx := hB.le.box _ _ hb'
  by_cases hlt : i < ks.length
  ·have hlt' : ((i : Int) < ks.length) = True := eq_true (by omega)
   have hwi : IntKind.i64.wrap ((i : Int) + 1) = ((i + 1 : Nat) : Int) := by rw [wrap_nat (by omega) (by omega)]; rfl
   obtain ⟨k, hk⟩ : ∃ k, ks[i]? = some k := ⟨_, List.getElem?_eq_getElem hlt⟩
   rw [drop_get _ _ _ hk] at hC
   simp only [PutCs] at hC
   obtain ⟨v, c', L3, L4, T3, T4, hcs, rfl, rfl, hT, hC⟩ := hC
   have hp := hP k (List.mem_of_getElem? hk) v L3 T3 hT s2 (xs ++ L1) (ys ++ [some (b', ks.length)] ++ T1) (by simp only [List.length_append] at *; omega) (by simp only [List.length_append, List.length_cons, List.length_nil] at *; omega) hB
   obtain ⟨vk, vt, r0, Lk', Lt', rk, Tk', rt, Tt', rfl, hq⟩ := (putT_eq _ _ _ _ _).1 hT
   have hco : i * 7 <= cs.length := by
    by_cases h : i * 7 <= cs.length
    ·exact h
    ·rw [List.drop_eq_nil_of_le (by omega)] at hcs; cases hcs
   have hdr : (cs ++ rest).drop (i * 7) = [.int .u8 k.knd, .bool k.neg, rowA 1 47 r0, .str k.text, .int .i64 k.num, vk, vt] ++ (c' ++ rest) := by
    rw [List.drop_append_of_le_length hco, hcs, List.append_assoc]; rfl
   have hnx : cs.drop ((i + 1) * 7) = c' := by
    have : cs.drop ((i + 1) * 7) = (cs.drop (i * 7)).drop 7 := by rw [List.drop_drop]; congr 1; omega
    rw [this, hcs]; rfl
   clear hP hT hcs hco hb' hx hy hq
   generalize cs ++ rest = X at *
   repeat' (first | (refine wn ?_; intro bx hbx; try simp only [fb] at hbx) | ((refine Tri.mono hp ?_; rintro r s3 ⟨rfl, hB3, hk3⟩)) | refine wj ?_ | simp -dsimp only [↓bp, bq, br, seval, tbApT, rowA, *] | refine wz ?_ | fail)
   exact ⟨ks.length - (i + 1), by omega, i + 1, L1 ++ L3, T1 ++ T3, L4, T4, by omega, rfl, rfl, by simp, by simp, by rw [hnx]; exact hC, by simpa [List.append_assoc] using hB3, hk2.trans hk3⟩
  ·have : i = ks.length := by omega
   subst this
   have hlt' : ((ks.length : Int) < ks.length) = False := eq_false (by omega)
   rw [List.drop_length] at hC
   simp only [PutCs] at hC
   obtain ⟨_, rfl, rfl⟩ := hC
   clear hP
   repeat' (first | (refine wn ?_; intro bx hbx; try simp only [fb] at hbx) | refine wj ?_ | simp -dsimp only [↓bp, bq, br, seval, tbApT, rowA, *] | refine wz ?_ | fail)
   all_goals exact finishW_some _ (AS.le.refl _) ⟨rfl, by simpa using hB, hk2⟩
theorem oneT_tri (σ0 : AS) (b : Nat) (t : Term) : t.bulk <= 1000000000 -> PTri G σ0 b t := by
 refine Term.ind (P := fun t => t.bulk <= 1000000000 -> PTri G σ0 b t) (fun t ih1 ih2 hbk => ?_) t
 have hl1 := len_items t
 have hl2 := len_tail t
 replace ih1 : ∀ x, x ∈ t.items -> PTri G σ0 b x := fun x hx => ih1 x hx (by have := bulk_item hx; omega)
 replace ih2 : ∀ x, x ∈ t.tail -> PTri G σ0 b x := fun x hx => ih2 x hx (by have := bulk_tail hx; omega)
 intro v Ls Ts hT σ xs ys hx hy hB
 obtain ⟨vk, vt, r0, Lk, Lt, rk, Tk, rt, Tt, rfl, rfl, rfl, hr0, hK, hTl⟩ := (putT_eq _ _ _ _ _).1 hT
 simp only [List.length_cons, List.length_append] at hx hy
 have hvk : Av.one vk = true /\ flat vk = [vk] /\ isv vk = true := by rw [hK.1]; exact ⟨one_rowA _ _ _, flat_rowA _ _ _, isv_rowA _ _ _⟩
 have hvt : Av.one vt = true /\ flat vt = [vt] /\ isv vt = true := by rw [hTl.1]; exact ⟨one_rowA _ _ _, flat_rowA _ _ _, isv_rowA _ _ _⟩
 obtain ⟨a1, a2, a3⟩ := hvk
 obtain ⟨a4, a5, a6⟩ := hvt
 refine Tri.of_awp mixed Tryz.func88 rfl (by kernel_rfl) (by kernel_rfl) (by simp [Tryz.ntmps88]) Tryz.results88 ?_
 simp -dsimp only [↓bp, bq, br, seval, tbApT]
 refine newW_intro fun c hc => ?_
 have hB0 := hB.newBox hc [.int .u8 t.knd, .bool t.neg, rowA 1 47 r0, .str t.text, .int .i64 t.num, vk, vt]
 have hcb : c ≠ b := fun e => by obtain ⟨_, vl, vtt, h1, _⟩ := hB; rw [<- e, hc.1] at h1; cases h1
 have hk0 : KeepX b σ (σ.setBox c [.int .u8 t.knd, .bool t.neg, rowA 1 47 r0, .str t.text, .int .i64 t.num, vk, vt]) := fun d z hd hz => set_other hz (fun e => by rw [e, hc.1] at hz; cases hz)
 have e0 : (σ.setBox c [.int .u8 t.knd, .bool t.neg, rowA 1 47 r0, .str t.text, .int .i64 t.num, vk, vt]).box c = some [.int .u8 t.knd, .bool t.neg, rowA 1 47 r0, .str t.text, .int .i64 t.num, vk, vt] := AS.set_get
 generalize σ.setBox c [.int .u8 t.knd, .bool t.neg, rowA 1 47 r0, .str t.text, .int .i64 t.num, vk, vt] = A0 at *
 have q1 := putLimbs_tri G xs ys r0 σ0 A0 b (by omega) hB0
 repeat' (first | (refine wn ?_; intro bx hbx; try simp only [fb] at hbx) | refine wj ?_ | simp -dsimp only [↓bp, bq, br, seval, tbApT, *] | refine wz ?_ | fail)
 refine Tri.mono q1 ?_
 rintro _ s1 ⟨rfl, hB1, k1⟩
 have e1 := k1 c _ hcb e0
 have q2 := putTs_tri G σ0 b t.items (by omega) ih1 vk Lk rk Tk hK s1 (xs ++ [r0]) ys (by simp only [List.length_append, List.length_cons, List.length_nil]; omega) (by omega) hB1
 clear q1 e0 hB0 hB1
 repeat' (first | (refine wn ?_; intro bx hbx; try simp only [fb] at hbx) | refine wj ?_ | simp -dsimp only [↓bp, bq, br, seval, tbApT, *] | refine wz ?_ | fail)
 refine Tri.mono q2 ?_
 rintro _ s2 ⟨rfl, hB2, k2⟩
 have e2 := k2 c _ hcb e1
 have q3 := putTs_tri G σ0 b t.tail (by omega) ih2 vt Lt rt Tt hTl s2 (xs ++ [r0] ++ Lk) (ys ++ (rk :: Tk)) (by simp only [List.length_append, List.length_cons, List.length_nil]; omega) (by simp only [List.length_append, List.length_cons]; omega) hB2
 clear q2 e1 hB2
 repeat' (first | (refine wn ?_; intro bx hbx; try simp only [fb] at hbx) | refine wj ?_ | simp -dsimp only [↓bp, bq, br, seval, tbApT, *] | refine wz ?_ | fail)
 refine Tri.mono q3 ?_
 rintro _ s3 ⟨rfl, hB3, k3⟩
 clear q3 e2
 repeat' (first | (refine wn ?_; intro bx hbx; try simp only [fb] at hbx) | refine wj ?_ | simp -dsimp only [↓bp, bq, br, seval, tbApT, *] | refine wz ?_ | fail)
 all_goals exact finishW_some _ (AS.le.refl _) ⟨rfl, by simpa [List.append_assoc] using hB3, ((hk0.trans k1).trans k2).trans k3⟩
end
set_option maxRecDepth 20000
section
def tbApT2 := And.intro (And.intro (And.intro (And.intro (And.intro @tf3 @tf4) (And.intro @tf9 @tf5)) (And.intro (And.intro @tf47 @tf22) (And.intro @tf23 @tf24))) (And.intro (And.intro (And.intro @tf26 @tf93) (And.intro @tf72 @tf75)) (And.intro (And.intro @tf73 @tf74) (And.intro @tf77 @tf76)))) (And.intro (And.intro (And.intro (And.intro @tf78 @tf79) (And.intro @tf36 @tf80)) (And.intro (And.intro @tf81 @tf82) (And.intro @tf83 @tf84))) (And.intro (And.intro (And.intro @tf85 @tf86) (And.intro @tf87 @tf88)) (And.intro (And.intro @tf89 @tf90) (And.intro @tf91 (And.intro @isv_rowA @flat_rowA)))))
variable (G : Nat -> AV)
mutual
def nodesT : Term -> Nat
 | .mk _ _ _ _ _ ks ts => 1 + nodesL ks + nodesL ts
def nodesL : List Term -> Nat
 | [] => 0
 | k :: r => nodesT k + nodesL r
end
theorem nodesT_eq (t : Term) : nodesT t = 1 + nodesL t.items + nodesL t.tail := by cases t; simp only [nodesT, Term.items, Term.tail]
theorem termsLoop_nodes (l : List Term) (ih : ∀ k, k ∈ l -> ∀ m, termsOf k m <= m -> (nodesT k : Int) <= termsOf k m) : ∀ n m : Int, termsLoop l n m <= m -> n + nodesL l <= termsLoop l n m := by
 induction l with
 | nil => intro n m h; simp [termsLoop, nodesL]
 | cons x l ih2 =>
  intro n m h
  simp only [termsLoop, nodesL] at h ⊢
  by_cases hn : n <= m
  ·rw [if_pos hn] at h ⊢
   have h0 := termsLoop_le l (fun k _ => termsOf_le k) (n + termsOf x (m - n)) m
   have h1 := ih x (by simp) (m - n) (by omega)
   have h2 := ih2 (fun k hk => ih k (by simp [hk])) (n + termsOf x (m - n)) m h
   omega
  ·rw [if_neg hn] at h ⊢; omega
theorem termsOf_nodes (t : Term) : ∀ m, termsOf t m <= m -> (nodesT t : Int) <= termsOf t m := by
 refine Term.ind (P := fun t => ∀ m, termsOf t m <= m -> (nodesT t : Int) <= termsOf t m) (fun t ih1 ih2 m h => ?_) t
 rw [termsOf_eq] at h ⊢
 rw [nodesT_eq]
 have e1 := termsLoop_le t.tail (fun k _ => termsOf_le k) (termsLoop t.items (1 + t.limbs.length + (t.text.length / 8 : Nat)) m) m
 have h2 := termsLoop_nodes t.tail ih2 _ m h
 have h1 := termsLoop_nodes t.items ih1 (1 + t.limbs.length + (t.text.length / 8 : Nat)) m (by omega)
 omega
theorem greats_nodes : ∀ (l : List Term) (n : Int), 0 <= n -> greats l n <= 6000 -> n + nodesL l <= greats l n
 | [], n, _, h => by simp [greats, nodesL]
 | t :: l, n, hn0, h => by
  simp only [greats, nodesL] at h ⊢
  by_cases hn : n <= 6000
  ·rw [if_pos hn] at h ⊢
   have h0 := greats_le l (n + termsOf t 6000)
   have h3 := termsOf_le t 6000
   have h2 := greats_nodes l _ (by omega) h
   have h1 := termsOf_nodes t 6000 (by omega)
   omega
  ·rw [if_neg hn] at h ⊢; omega
theorem great_nodes {l : List Term} (h : great l = false) : nodesL l <= 6000 := by
 have h1 : ¬ 6000 < greats l 0 := by simpa [great] using h
 have := greats_nodes l 0 (by omega) (by omega)
 omega
def RowsIn (s B : Nat) (σ : AS) (rs : List Row) : Prop := ∀ b n, some (b, n) ∈ rs -> n <= B /\ ∃ cs, σ.box b = some cs /\ n * s <= cs.length
theorem RowsIn.append {s B : Nat} {σ : AS} {xs ys : List Row} (h1 : RowsIn s B σ xs) (h2 : RowsIn s B σ ys) : RowsIn s B σ (xs ++ ys) := fun b n h => by
 rcases List.mem_append.1 h with h | h
 ·exact h1 b n h
 ·exact h2 b n h
theorem RowsIn.nil {s B : Nat} {σ : AS} : RowsIn s B σ [] := fun b n h => (by cases h)
theorem RowsIn.more {s B C : Nat} {σ : AS} {xs : List Row} (h : RowsIn s B σ xs) (hbc : B <= C) : RowsIn s C σ xs := fun b n hb => ⟨by have := (h b n hb).1; omega, (h b n hb).2⟩
def PutOk (σ : AS) (B : Nat) (t : Term) : Prop := ∀ (v : AV) (Ls Ts : List Row), PutT σ t v Ls Ts -> Ls.length = nodesT t /\ Ts.length = 2 * nodesT t /\ (flat v).length = 7 /\ RowsIn 1 B σ Ls /\ RowsIn 7 B σ Ts
theorem putCs_ok {σ : AS} {B : Nat} : ∀ (l : List Term) (cs : List AV) (Ls Ts : List Row), (∀ t, t ∈ l -> PutOk σ B t) -> PutCs σ l cs Ls Ts -> Ls.length = nodesL l /\ Ts.length = 2 * nodesL l /\ cs.length = l.length * 7 /\ RowsIn 1 B σ Ls /\ RowsIn 7 B σ Ts
 | [], cs, Ls, Ts, _, h => by
  simp only [PutCs] at h
  obtain ⟨rfl, rfl, rfl⟩ := h
  exact ⟨by simp [nodesL], by simp [nodesL], rfl, .nil, .nil⟩
 | t :: r, cs, Ls, Ts, hP, h => by
  simp only [PutCs] at h
  obtain ⟨v, c', L1, L2, T1, T2, rfl, rfl, rfl, h1, h2⟩ := h
  obtain ⟨a1, a2, a3, a4, a5⟩ := hP t List.mem_cons_self v L1 T1 h1
  obtain ⟨b1, b2, b3, b4, b5⟩ := putCs_ok r c' L2 T2 (fun t ht => hP t (List.mem_cons_of_mem _ ht)) h2
  refine ⟨by rw [List.length_append, a1, b1]; simp [nodesL], by rw [List.length_append, a2, b2]; simp only [nodesL]; omega, by rw [List.length_append, a3, b3, List.length_cons]; omega, a4.append b4, a5.append b5⟩
theorem putR_ok {σ : AS} {B : Nat} {l : List Term} (hB : l.length <= B) (hP : ∀ t, t ∈ l -> PutOk σ B t) {v : AV} {Lk : List Row} {r : Row} {Tk : List Row} (h : PutR σ l v Lk r Tk) : Lk.length = nodesL l /\ Tk.length = 2 * nodesL l /\ (∃ r' : Row, v = rowA 7 26 r') /\ RowsIn 1 B σ Lk /\ RowsIn 7 B σ (r :: Tk) := by
 obtain ⟨rfl, hl, h⟩ := h
 rcases h with ⟨rfl, rfl, rfl⟩ | ⟨b, cs, rest, rfl, hb, hC⟩
 ·have : l = [] := List.eq_nil_of_length_eq_zero hl.symm
  subst this
  exact ⟨by simp [nodesL], by simp [nodesL], ⟨_, rfl⟩, .nil, fun b n h => by simp at h⟩
 ·obtain ⟨a1, a2, a3, a4, a5⟩ := putCs_ok l cs Lk Tk hP hC
  refine ⟨a1, a2, ⟨_, rfl⟩, a4, fun c n h => ?_⟩
  rcases List.mem_cons.1 h with h | h
  ·simp only [Option.some.injEq, Prod.mk.injEq] at h
   obtain ⟨rfl, rfl⟩ := h
   exact ⟨hB, _, hb, by rw [List.length_append]; omega⟩
  ·exact a5 c n h
theorem putT_ok {σ : AS} {B : Nat} (t : Term) : t.bulk <= B -> PutOk σ B t := by
 refine Term.ind (P := fun t => t.bulk <= B -> PutOk σ B t) (fun t ih1 ih2 hb v Ls Ts h => ?_) t
 obtain ⟨vk, vt, r0, Lk, Lt, rk, Tk, rt, Tt, rfl, rfl, rfl, hr0, hK, hT⟩ := (putT_eq _ _ _ _ _).1 h
 obtain ⟨a1, a2, ⟨q1, a3⟩, a4, a5⟩ := putR_ok (B := B) (by have := len_items t; omega) (fun x hx => ih1 x hx (by have := bulk_item hx; omega)) hK
 obtain ⟨b1, b2, ⟨q2, b3⟩, b4, b5⟩ := putR_ok (B := B) (by have := len_tail t; omega) (fun x hx => ih2 x hx (by have := bulk_tail hx; omega)) hT
 rw [nodesT_eq]
 refine ⟨by simp only [List.length_cons, List.length_append, a1, b1]; omega, by simp only [List.length_cons, List.length_append, a2, b2]; omega, ?_, fun b n hm => ?_, a5.append b5⟩
 ·rw [a3, b3]; simp only [flat, flat_rowA, List.length_cons, List.length_nil]
 ·rcases List.mem_cons.1 hm with hm | hm
  ·obtain ⟨h1, cs, h2, h3⟩ := hr0 b n hm.symm
   exact ⟨by have := len_limbs t; omega, cs, h2, h3⟩
  ·exact (a4.append b4) b n hm
def PutRs (σ : AS) : List (List Term) -> List AV -> List Row -> List Row -> Prop
 | [], vs, Ls, Ts => vs = [] /\ Ls = [] /\ Ts = []
 | ks :: rest, vs, Ls, Ts => ∃ v vs' Lk r Tk L2 T2, vs = v :: vs' /\ Ls = Lk ++ L2 /\ Ts = (r :: Tk) ++ T2 /\ PutR σ ks v Lk r Tk /\ PutRs σ rest vs' L2 T2
theorem putRs_ok {σ : AS} {B : Nat} : ∀ (kss : List (List Term)) (vs : List AV) (Ls Ts : List Row), (∀ ks, ks ∈ kss -> bulks ks <= B) -> PutRs σ kss vs Ls Ts -> Ls.length = nodesL kss.flatten /\ Ts.length = 2 * nodesL kss.flatten + kss.length /\ vs.length = kss.length /\ RowsIn 1 B σ Ls /\ RowsIn 7 B σ Ts
 | [], vs, Ls, Ts, _, h => by
  simp only [PutRs] at h
  obtain ⟨rfl, rfl, rfl⟩ := h
  exact ⟨by simp [nodesL], by simp [nodesL], rfl, .nil, .nil⟩
 | ks :: rest, vs, Ls, Ts, hB, h => by
  simp only [PutRs] at h
  obtain ⟨v, vs', Lk, r, Tk, L2, T2, rfl, rfl, rfl, hR, h2⟩ := h
  obtain ⟨a1, a2, a3, a4, a5⟩ := putR_ok (B := B) (by have := len_le_bulks ks; have := hB ks List.mem_cons_self; omega) (fun x hx => putT_ok x (by have := bulk_mem hx; have := hB ks List.mem_cons_self; omega)) hR
  obtain ⟨b1, b2, b3, b4, b5⟩ := putRs_ok rest vs' L2 T2 (fun x hx => hB x (List.mem_cons_of_mem _ hx)) h2
  have hn : ∀ a b : List Term, nodesL (a ++ b) = nodesL a + nodesL b := fun a b => by
   induction a with
   | nil => simp [nodesL]
   | cons x a ih => simp only [List.cons_append, nodesL, ih]; omega
  refine ⟨by rw [List.length_append, a1, b1, List.flatten_cons, hn], by rw [List.length_append, List.length_cons, a2, b2, List.flatten_cons, hn, List.length_cons]; omega, by simp [b3], a4.append b4, a5.append b5⟩
theorem RowsIn.at {s B : Nat} {σ : AS} {rs : List Row} (h : RowsIn s B σ rs) : ∀ (j b n : Nat), rs[j]? = some (some (b, n)) -> ∃ cs, σ.box b = some cs /\ n * s <= cs.length := fun j b n hj => (h b n (List.mem_of_getElem? hj)).2
theorem RowsIn.len {s B : Nat} {σ : AS} {rs : List Row} (h : RowsIn s B σ rs) (hB : B <= 1000000000) : ∀ (k : Nat) (r : Row), rs[k]? = some r -> rlen r <= 1000000000 := fun k r hk => by
 cases r with
 | none => simp [rlen]
 | some p => obtain ⟨b, n⟩ := p; have := (h b n (List.mem_of_getElem? hk)).1; simp only [rlen]; omega
theorem RowsIn.notIn {s B : Nat} {σ : AS} {rs : List Row} (h : RowsIn s B σ rs) {b : Nat} (hb : σ.box b = none) : ¬ InS rs b := fun ⟨n, hn⟩ => by
 obtain ⟨_, cs, h1, _⟩ := h b n hn
 rw [hb] at h1; cases h1
theorem LeX.wk {S T : Nat -> Prop} {σ σ' : AS} (h : LeX S σ σ') (hs : ∀ c, S c -> T c) : LeX T σ σ' := ⟨fun b cs hn hc => h.box b cs (fun e => hn (hs b e)) hc, h.tip, h.ty⟩
set_option maxHeartbeats 4000000 in
theorem apartT_tri (xs ys : List Row) (hd : (boxesOf (xs ++ ys)).Nodup) (hNx : xs.length <= 1000000) (hNy : ys.length <= 1000000) (σ0 σ : AS) (b : Nat) (hx : RowsIn 1 1000000000 σ0 xs) (hy : RowsIn 7 1000000000 σ0 ys) (h : BagT2 σ0 σ b xs ys) :
  Tri Tryz.prog G 60 [.ptr b 0] σ fun r σ' => r = .bool true /\ LeX (fun c => c ∈ boxesOf (xs ++ ys)) σ0 σ' := by
 have hle := h.le
 have hx0 : LeX (fun c => c ∈ boxesOf (xs ++ ys)) σ0 σ := ⟨fun b cs _ hc => hle.box b cs hc, hle.tip, hle.ty⟩
 have hi1 : ∀ c, InS xs c -> c ∈ boxesOf (xs ++ ys) := fun c h => by rw [boxesOf_append]; exact List.mem_append_left _ (boxesOf_mem xs c h)
 have hi2 : ∀ c, InS ys c -> c ∈ boxesOf (xs ++ ys) := fun c h => by rw [boxesOf_append]; exact List.mem_append_right _ (boxesOf_mem ys c h)
 rw [boxesOf_append, List.nodup_append] at hd
 obtain ⟨hd1, hd2, hd3⟩ := hd
 obtain ⟨hfr, vl, vt, hb, hB, hT, ha⟩ := h
 have hnx := hx.notIn hfr.1
 have hny := hy.notIn hfr.1
 have hF := flatLimbs_tri G xs (distinct_of xs hd1) hNx (hx.len (by omega)) σ (fun j b n hj => by
  obtain ⟨cs, h1, h2⟩ := hx.at j b n hj
  exact ⟨cs, hle.box _ _ h1, h2⟩)
 have hF1 : Tri Tryz.prog G 89 [vl] σ _ := Tri.weaken (.cons hB.told .nil) hF
 have hF2 := fun (s : AS) (hX : LeX (InS xs) σ s) => flatTerms_tri G ys (distinct_of ys hd2) hNy (hy.len (by omega)) s (fun j c n hj => by
  obtain ⟨cs, h1, h2⟩ := hy.at j c n hj
  exact ⟨cs, hX.box _ _ (fun ⟨m, hin⟩ => hd3 c (boxesOf_mem xs c ⟨m, hin⟩) c (boxesOf_at ys j c n hj) rfl) (hle.box _ _ h1), h2⟩)
 have hF3 := fun (s : AS) (hX : LeX (InS xs) σ s) => Tri.weaken (args := [vt]) (.cons hT.told .nil) (hF2 s hX)
 clear hF hF2 hx hy hB hT hle hd1 hd2 hd3 ha
 have f2 := flatWords_nil G
 have f3 := flatInts_nil G
 have f4 := flatLongs_nil G
 have f5 := flatTexts_nil G
 have f6 := flatBytes_nil G
 have f7 := flatFaults_nil G
 have f9 := flatTokens_nil G
 have f10 := flatNodes_nil G
 have f11 := flatCores_nil G
 have f12 := flatFuncs_nil G
 have f13 := flatPrograms_nil G
 have f14 := flatInstrs_nil G
 have f15 := flatEntries_nil G
 have f16 := flatCodes_nil G
 have f17 := flatSteps_nil G
 have f18 := flatEndeds_nil G
 have f19 := flatNameds_nil G
 have f20 := flatSeens_nil G
 refine Tri.of_awp mixed Tryz.func60 rfl (by kernel_rfl) (by kernel_rfl) (by simp [Tryz.ntmps60]) Tryz.results60 ?_
 repeat' (first | refine xs ?_ ?_ <;> intros | (refine wn ?_; intro bx hbx; try simp only [fb] at hbx) | ((refine Tri.mono hF1 ?_; rintro r s2 ⟨rfl, hX⟩; have hb2 := hX.box _ _ hnx hb; have hG := hF3 s2 hX; clear hF3 hF1)) | refine wp f2 ?_ | refine wp f3 ?_ | refine wp f4 ?_ | refine wp f5 ?_ | refine wp f6 ?_ | refine wp f7 ?_ | ((refine Tri.mono hG ?_; rintro r s3 ⟨rfl, hY⟩; have hb3 := hY.box _ _ hny hb2)) | refine wp f9 ?_ | refine wp f10 ?_ | refine wp f11 ?_ | refine wp f12 ?_ | refine wp f13 ?_ | refine wp f14 ?_ | refine wp f15 ?_ | refine wp f16 ?_ | refine wp f17 ?_ | refine wp f18 ?_ | refine wp f19 ?_ | refine wp f20 ?_ | refine wj ?_ | simp -dsimp only [↓bp, bq, br, seval, tbApT2, *] | refine wz ?_ | fail)
 exact finishW_some _ (AS.le.refl _) ⟨rfl, (hx0.trans (hX.wk hi1)).trans (hY.wk hi2)⟩
set_option maxHeartbeats 2000000 in
theorem apartTerms_tri (kss : List (List Term)) (vs : List AV) (Ls Ts : List Row) (g : Gh) (σ : AS) (h : PutRs σ kss vs Ls Ts) (hd : (boxesOf (Ls ++ Ts)).Nodup) (hb : ∀ ks, ks ∈ kss -> bulks ks <= 1000000000) (hn : 2 * nodesL kss.flatten + kss.length <= 1000000) :
  Tri Tryz.prog G 19 [.sl g vs []] σ fun r σ' => r = .bool true /\ LeX (fun c => c ∈ boxesOf (Ls ++ Ts)) σ σ' := by
 refine Tri.weaken (.cons Le.gh .nil) ?_
 obtain ⟨n1, n2, n3, o1, o2⟩ := putRs_ok kss vs Ls Ts hb h
 have hA := fun (σ' : AS) (b : Nat) (h : BagT2 σ σ' b Ls Ts) => apartT_tri G Ls Ts hd (by omega) (by omega) σ σ' b o1 o2 h
 clear hd o1 o2
 refine Tri.of_awp mixed Tryz.func19 rfl (by kernel_rfl) (by kernel_rfl) (by simp [Tryz.ntmps19]) Tryz.results19 ?_
 simp -dsimp only [↓bp, bq, br, seval, tbApT2]
 refine newW_intro fun b hb' => ?_
 have hB0 : BagT2 σ (σ.setBox b [.nil, .nil, .nil, .nil, .nil, .nil, .nil, .nil, .nil, .nil, .nil, .nil, .nil, .nil, .nil, .nil, .nil, .nil, .nil, .nil]) b [] [] := ⟨hb', .nil, .nil, by simp [AS.setBox], Buf.setT (.nil (AS.le.refl σ)) hb' _, Buf.setT (.nil (AS.le.refl σ)) hb' _, fun c h => by cases h⟩
 generalize σ.setBox b [.nil, .nil, .nil, .nil, .nil, .nil, .nil, .nil, .nil, .nil, .nil, .nil, .nil, .nil, .nil, .nil, .nil, .nil, .nil, .nil] = S0 at *
 repeat' (first | refine xs ?_ ?_ <;> intros | (refine wn ?_; intro bx hbx; try simp only [fb] at hbx) | refine wj ?_ | simp -dsimp only [↓bp, bq, br, seval, tbApT2, *] | refine wz ?_ | fail)
 refine loop_intro (fun n e σ' => ∃ (i : Nat) (L1 T1 L2 T2 : List Row), i <= vs.length /\ n = vs.length - i /\ e 4 = .int .i64 i /\ Ls = L1 ++ L2 /\ Ts = T1 ++ T2 /\ PutRs σ (kss.drop i) (vs.drop i) L2 T2 /\ BagT2 σ σ' b L1 T1) vs.length
  ⟨0, [], [], Ls, Ts, by omega, by omega, by first | (simp -dsimp only [↓bp, bq, br, seval, tbApT2]; done) | (simp -dsimp only [↓bp, bq, br, seval, tbApT2]; try rfl), rfl, rfl, h, hB0⟩ ?_
 clear hB0 h
 rintro n e σ2 ⟨i, L1, T1, L2, T2, hi, rfl, h4, rfl, rfl, hR, hB⟩
 simp -dsimp only [↓bp, bq, br, seval, tbApT2] at h4
 by_cases hlt : (i : Int) < vs.length
 ·have hik : i < kss.length := by omega
  obtain ⟨ks, hx⟩ : ∃ x, kss[i]? = some x := ⟨_, List.getElem?_eq_getElem hik⟩
  have hwi : IntKind.i64.wrap ((i : Int) + 1) = ((i + 1 : Nat) : Int) := by rw [wrap_nat (by omega) (by omega)]; rfl
  rw [drop_get _ _ _ hx] at hR
  simp only [PutRs] at hR
  obtain ⟨v, vs', Lk, r, Tk, L3, T3, hvs, rfl, rfl, hr, hR⟩ := hR
  have hvi : vs[i]? = some v := by
   have := congrArg (fun l => l[0]?) hvs
   simpa using this
  have hnx : vs.drop (i + 1) = vs' := by
   have : vs.drop (i + 1) = (vs.drop i).drop 1 := by rw [List.drop_drop]
   rw [this, hvs]; rfl
  obtain rfl := hr.1
  have hp := putTs_tri G σ b ks (by have := hb ks (List.mem_of_getElem? hx); have := len_le_bulks ks; omega) (fun t ht => oneT_tri G σ b t (by have := hb ks (List.mem_of_getElem? hx); have := bulk_mem ht; omega)) (rowA 7 26 r) Lk r Tk hr σ2 L1 T1 (by simp only [List.length_append] at *; omega) (by simp only [List.length_append, List.length_cons] at *; omega) hB
  have hlt' := eq_true hlt
  have hvl : i + 1 <= vs.length := by omega
  clear hA hB hr hvs hb hn n1 n2 n3 hik
  repeat' (first | (refine wn ?_; intro bx hbx; try simp only [fb] at hbx) | ((refine Tri.mono hp ?_; rintro r s2 ⟨rfl, hB2, _⟩)) | refine wj ?_ | simp -dsimp only [↓bp, bq, br, seval, tbApT2, *] | refine wz ?_ | fail)
  all_goals exact ⟨vs.length - (i + 1), by omega, i + 1, L1 ++ Lk, T1 ++ (r :: Tk), L3, T3, by omega, rfl, rfl, by simp, by simp, by rw [hnx]; exact hR, hB2⟩
 ·have : i = vs.length := by omega
  subst this
  have hkl : kss.drop vs.length = [] := List.drop_eq_nil_of_le (by omega)
  rw [hkl] at hR
  simp only [PutRs] at hR
  obtain ⟨_, rfl, rfl⟩ := hR
  rw [List.append_nil, List.append_nil] at hA
  have hlt' := eq_false hlt
  have hp := hA σ2 b hB
  clear hA hB n3
  repeat' (first | (refine wn ?_; intro bx hbx; try simp only [fb] at hbx) | ((refine Tri.mono hp ?_; rintro r s2 ⟨rfl, hX⟩)) | refine wj ?_ | simp -dsimp only [↓bp, bq, br, seval, tbApT2, *] | refine wz ?_ | fail)
  all_goals exact finishW_some _ (AS.le.refl _) ⟨rfl, by simpa using hX⟩
def OwnRs (σ : AS) : List (List Term) -> List AV -> List Nat -> Prop
 | [], vs, S => vs = [] /\ S = []
 | ks :: rest, vs, S => ∃ v vs' S1 S2, vs = v :: vs' /\ S = S1 ++ S2 /\ OwnR σ false ks v S1 /\ OwnRs σ rest vs' S2
theorem ownRs_put {σ : AS} : ∀ (kss : List (List Term)) (vs : List AV) (S : List Nat), OwnRs σ kss vs S -> ∃ Ls Ts, PutRs σ kss vs Ls Ts /\ S.Perm (boxesOf (Ls ++ Ts))
 | [], vs, S, h => by
  simp only [OwnRs] at h
  obtain ⟨rfl, rfl⟩ := h
  exact ⟨[], [], by simp [PutRs], .nil⟩
 | ks :: rest, vs, S, h => by
  simp only [OwnRs] at h
  obtain ⟨v, vs', S1, S2, rfl, rfl, h1, h2⟩ := h
  obtain ⟨Lk, r, Tk, p1, q1⟩ := ownR_put ks (fun t _ => ownT_put t) v S1 h1
  obtain ⟨L2, T2, p2, q2⟩ := ownRs_put rest vs' S2 h2
  refine ⟨Lk ++ L2, (r :: Tk) ++ T2, by simp only [PutRs]; exact ⟨v, vs', Lk, r, Tk, L2, T2, rfl, rfl, rfl, p1, p2⟩, (q1.append q2).trans ?_⟩
  simp only [boxesOf_append, List.append_assoc]
  refine List.Perm.append_left _ ?_
  rw [<- List.append_assoc, <- List.append_assoc]
  exact List.Perm.append_right _ List.perm_append_comm
theorem ownR_single {σ : AS} {t : Term} {v : AV} {S : List Nat} {c : Nat} (h : OwnT σ false t v S) (hc : σ.box c = some (flat v)) : OwnR σ false [t] (.bs c 1 7 26) (c :: S) :=
 .inr ⟨c, flat v, [], S, rfl, rfl, by rw [List.append_nil]; exact hc, rfl, by simp only [OwnCs]; exact ⟨v, [], S, [], by simp, by simp, h, rfl, rfl⟩⟩
theorem apartOwn_tri (kss : List (List Term)) (vs : List AV) (S : List Nat) (g : Gh) (σ : AS) (h : OwnRs σ kss vs S) (hd : S.Nodup) (hb : ∀ ks, ks ∈ kss -> bulks ks <= 1000000000) (hn : 2 * nodesL kss.flatten + kss.length <= 1000000) :
  Tri Tryz.prog G 19 [.sl g vs []] σ fun r σ' => r = .bool true /\ LeX (fun c => c ∈ S) σ σ' := by
 obtain ⟨Ls, Ts, h1, h2⟩ := ownRs_put kss vs S h
 refine Tri.mono (apartTerms_tri G kss vs Ls Ts g σ h1 (h2.nodup_iff.1 hd) hb hn) ?_
 rintro r s ⟨h3, h4⟩
 exact ⟨h3, h4.wk fun c hc => (h2.mem_iff).2 hc⟩
end
section
structure NewF (σ0 σ : AS) (F : Nat -> List Nat) : Prop where
 le : σ0.le σ
 fr : ∀ k b, b ∈ F k -> σ0.box b = none /\ σ0.tip b = none
 nd : ∀ k, (F k).Nodup
 dj : ∀ j k b, b ∈ F j -> b ∈ F k -> j = k
 on : ∀ k b, b ∈ F k -> ∃ z, σ.box b = some z
theorem NewF.none (σ : AS) : NewF σ σ fun _ => [] := ⟨AS.le.refl σ, fun _ _ h => (by cases h), fun _ => .nil, fun _ _ _ h => (by cases h), fun _ _ h => (by cases h)⟩
def updF (F : Nat -> List Nat) (k : Nat) (A : List Nat) : Nat -> List Nat := fun j => if j = k then A else F j
theorem NewF.put {σ0 σ σ' : AS} {F : Nat -> List Nat} {A : List Nat} (h : NewF σ0 σ F) (k : Nat) (hn : NewS σ σ' A) : NewF σ0 σ' (updF F k A) := by
 refine ⟨h.le.trans hn.le, fun j b hb => ?_, fun j => ?_, fun i j b hi hj => ?_, fun j b hb => ?_⟩
 ·unfold updF at hb
  split at hb
  ·obtain ⟨h1, h2⟩ := hn.fr b hb
   constructor
   ·cases e : σ0.box b with
    | none => rfl
    | some z => rw [h.le.box _ _ e] at h1; cases h1
   ·cases e : σ0.tip b with
    | none => rfl
    | some z => rw [h.le.tip _ _ e] at h2; cases h2
  ·exact h.fr j b hb
 ·unfold updF; split
  ·exact hn.nd
  ·exact h.nd j
 ·unfold updF at hi hj
  by_cases h1 : i = k <;> by_cases h2 : j = k
  ·rw [h1, h2]
  ·rw [if_pos h1] at hi; rw [if_neg h2] at hj
   obtain ⟨z, hz⟩ := h.on j b hj
   rw [(hn.fr b hi).1] at hz; cases hz
  ·rw [if_neg h1] at hi; rw [if_pos h2] at hj
   obtain ⟨z, hz⟩ := h.on i b hi
   rw [(hn.fr b hj).1] at hz; cases hz
  ·rw [if_neg h1] at hi; rw [if_neg h2] at hj
   exact h.dj i j b hi hj
 ·unfold updF at hb
  split at hb
  ·exact hn.on b hb
  ·obtain ⟨z, hz⟩ := h.on j b hb
   exact ⟨z, hn.le.box _ _ hz⟩
section
variable {P : Program} {G : Nat -> AV}
abbrev Slot := AS -> AV -> List Nat -> Prop
def isV (v : AV) : Slot := fun _ x S => x = v /\ S = []
def isB (z : List AV) : Slot := fun σ x S => ∃ b, x = .ptr b 0 /\ S = [b] /\ σ.box b = some z
def Keeps (q : Slot) : Prop := ∀ σ σ' v S, q σ v S -> (∀ b, b ∈ S -> σ'.box b = σ.box b) -> q σ' v S
theorem keeps_isV (v : AV) : Keeps (isV v) := fun _ _ _ _ h _ => h
theorem keeps_isB (z : List AV) : Keeps (isB z) := fun σ σ' v S ⟨b, h1, h2, h3⟩ hk => ⟨b, h1, h2, by rw [hk b (by rw [h2]; simp)]; exact h3⟩
def RowF (σ0 : AS) (e0 : Env) (n : Nat) (sl : Nat -> Nat) (Q : Nat -> Slot) (D : Nat -> Bool) (e : Env) (σ : AS) : Prop :=
 (∃ F, NewF σ0 σ F /\ ∀ k, k < n -> D k = true -> Q k σ (e (sl k)) (F k)) /\ ∀ t, (∀ k, k < n -> sl k ≠ t) -> e t = e0 t
def StepsO (P : Program) (G : Nat -> AV) (σ0 : AS) (e0 : Env) (n : Nat) (sl : Nat -> Nat) (Q : Nat -> Slot) : Nat -> List Oper -> Prop
 | _, [] => True
 | k, o :: r => (o.dst = some (sl k) /\ ∀ e σ, σ0.le σ -> (∀ j, j ∈ waitsOf o -> ∃ A, Q j σ (e (sl j)) A) -> (∀ t, (∀ j, j < n -> sl j ≠ t) -> e t = e0 t) -> aop P G o e σ (fun r s => ∃ A, NewS σ s A /\ Q k s r A)) /\ StepsO P G σ0 e0 n sl Q (k + 1) r
theorem stepsO_I {σ0 : AS} {e0 : Env} {n : Nat} {sl : Nat -> Nat} {Q : Nat -> Slot} (hk : ∀ k, Keeps (Q k)) (hi : ∀ i, i < n -> ∀ j, j < n -> sl i = sl j -> i = j) : ∀ (l : List Oper) (k : Nat), k + l.length <= n -> (∀ o, o ∈ l -> ∀ j, j ∈ waitsOf o -> j < n) -> StepsO P G σ0 e0 n sl Q k l -> stepsI P G (RowF σ0 e0 n sl Q) k l
 | [], _, _, _, _ => trivial
 | o :: r, k, hl, hw, ⟨⟨hd, h⟩, hr⟩ => by
  simp only [List.length_cons] at hl
  refine ⟨?_, stepsO_I hk hi r (k + 1) (by omega) (fun o' ho => hw o' (List.mem_cons_of_mem _ ho)) hr⟩
  rintro D e σ hD hwt ⟨⟨F, hF, hQ⟩, hfr⟩
  refine aop_mono ?_ (h e σ hF.le (fun j hj => ⟨F j, hQ j (hw o List.mem_cons_self j hj) (hwt j hj)⟩) hfr)
  rintro v s ⟨A, hN, hq⟩
  rw [hd]
  refine ⟨⟨updF F k A, hF.put k hN, fun j hj hDj => ?_⟩, fun t ht => ?_⟩
  ·by_cases e1 : j = k
   ·subst e1
    simpa [updF, Env.upd] using hq
   ·have e2 : sl k ≠ sl j := fun e2 => e1 (hi j hj k (by omega) e2.symm)
    have e3 : D j = true := by unfold updD at hDj; rw [if_neg e1] at hDj; exact hDj
    have e4 : (e.upd (some (sl k)) v) (sl j) = e (sl j) := Env.upd_other fun y hy hyu => by cases hy; exact e2 hyu
    rw [e4]
    simp only [updF, if_neg e1]
    exact hk j _ _ _ _ (hQ j hj e3) fun b hb => by
     obtain ⟨z, hz⟩ := hF.on j b hb
     rw [hz, hN.le.box _ _ hz]
  ·rw [<- hfr t ht]
   exact Env.upd_other fun y hy hyu => by cases hy; exact ht k (by omega) hyu
theorem draw_own {R : Env -> AS -> Prop} {e : Env} {σ : AS} {l : List Oper} {d : Dum l.toArray} {d' : Dum R} {d2 : Dum e} {d3 : Dum σ} (n : Nat) (sl : Nat -> Nat) (Q : Nat -> Slot) (hn : rowIB l.toArray n = true) (hi : ∀ i, i < n -> ∀ j, j < n -> sl i = sl j -> i = j) (hk : ∀ k, Keeps (Q k)) {hd tl : List Oper} (h1 : l.take n = hd) (h2 : l.drop n = tl)
  (hs : StepsO P G σ e n sl Q 0 hd) (hq : ∀ (F : Nat -> List Nat) e' s, NewF σ s F -> (∀ k, k < n -> Q k s (e' (sl k)) (F k)) -> (∀ t, (∀ k, k < n -> sl k ≠ t) -> e' t = e t) -> awpOps P G l R tl e' s) : drawW P G l.toArray R e σ d d' d2 d3 := by
 refine draw_inv n (RowF σ e n sl Q) hn h1 h2 (fun _ => ⟨⟨fun _ => [], NewF.none σ, fun k _ h => (by cases h)⟩, fun _ _ => rfl⟩) ?_ (fun D e' s hD ⟨⟨F, hF, hQ⟩, hfr⟩ => hq F e' s hF (fun k hk' => hQ k hk' (hD k hk')) hfr)
 unfold rowIB at hn
 simp only [Bool.and_eq_true, decide_eq_true_eq, List.all_eq_true, List.mem_range] at hn
 obtain ⟨⟨⟨hns, hb⟩, _⟩, _⟩ := hn
 refine stepsO_I hk hi hd 0 (by rw [<- h1]; simp only [List.length_take]; omega) (fun o ho j hj => ?_) hs
 subst h1
 obtain ⟨i, hio⟩ := List.getElem?_of_mem ho
 have hin : i < n := by
  have := (List.getElem?_eq_some_iff.1 hio).1
  simp only [List.length_take] at this; omega
 rw [List.getElem?_take_of_lt hin] at hio
 have := hb i hin
 simp only [List.getElem?_toArray, hio, Bool.and_eq_true, List.all_eq_true, decide_eq_true_eq] at this
 have := this.2 j hj
 omega
end
end
section
section
variable {P : Program} {G : Nat -> AV}
abbrev SlotV := (Nat -> AV) -> Slot
def RowF2 (σ0 : AS) (e0 : Env) (n : Nat) (sl : Nat -> Nat) (dp : Nat -> List Nat) (Q : Nat -> SlotV) (D : Nat -> Bool) (e : Env) (σ : AS) : Prop :=
 (∃ F, NewF σ0 σ F /\ ∀ k, k < n -> D k = true -> Q k (fun j => e (sl j)) σ (e (sl k)) (F k)) /\ (∀ k, k < n -> D k = true -> ∀ j, j ∈ dp k -> D j = true) /\ ∀ t, (∀ k, k < n -> sl k ≠ t) -> e t = e0 t
def StepsV (P : Program) (G : Nat -> AV) (σ0 : AS) (e0 : Env) (n : Nat) (sl : Nat -> Nat) (dp : Nat -> List Nat) (Q : Nat -> SlotV) : Nat -> List Oper -> Prop
 | _, [] => True
 | k, o :: r => ((o.dst = some (sl k) /\ (dp k).all (fun j => decide (j ∈ waitsOf o)) = true /\ ∀ e σ, σ0.le σ -> (∀ j, j ∈ waitsOf o -> ∃ A, Q j (fun i => e (sl i)) σ (e (sl j)) A) -> (∀ t, (∀ j, j < n -> sl j ≠ t) -> e t = e0 t) -> aop P G o e σ (fun r s => ∃ A, NewS σ s A /\ Q k (fun i => e (sl i)) s r A)) \/
  (o.dst = none /\ (dp k).all (fun j => decide (j ∈ waitsOf o)) = true /\ ∀ e σ, σ0.le σ -> (∀ j, j ∈ waitsOf o -> ∃ A, Q j (fun i => e (sl i)) σ (e (sl j)) A) -> (∀ t, (∀ j, j < n -> sl j ≠ t) -> e t = e0 t) -> aop P G o e σ (fun r s => ∃ A, NewS σ s A /\ ∀ v, Q k (fun i => e (sl i)) s v A))) /\ StepsV P G σ0 e0 n sl dp Q (k + 1) r
theorem stepsV_I {σ0 : AS} {e0 : Env} {n : Nat} {sl : Nat -> Nat} {dp : Nat -> List Nat} {Q : Nat -> SlotV} (hk : ∀ k V, Keeps (Q k V)) (hl : ∀ k V V' σ v S, (∀ j, j ∈ dp k -> V j = V' j) -> Q k V σ v S -> Q k V' σ v S) (hdn : ∀ k, k < n -> ∀ j, j ∈ dp k -> j < k) (hi : ∀ i, i < n -> ∀ j, j < n -> sl i = sl j -> i = j) : ∀ (l : List Oper) (k : Nat), k + l.length <= n -> (∀ o, o ∈ l -> ∀ j, j ∈ waitsOf o -> j < n) -> StepsV P G σ0 e0 n sl dp Q k l -> stepsI P G (RowF2 σ0 e0 n sl dp Q) k l
 | [], _, _, _, _ => trivial
 | o :: r, k, hle, hw, ⟨h, hr⟩ => by
  simp only [List.length_cons] at hle
  have h' : (o.dst = some (sl k) \/ o.dst = none) /\ (dp k).all (fun j => decide (j ∈ waitsOf o)) = true /\ ∀ e σ, σ0.le σ -> (∀ j, j ∈ waitsOf o -> ∃ A, Q j (fun i => e (sl i)) σ (e (sl j)) A) -> (∀ t, (∀ j, j < n -> sl j ≠ t) -> e t = e0 t) -> aop P G o e σ (fun r s => ∃ A, NewS σ s A /\ Q k (fun i => e (sl i)) s ((e.upd o.dst r) (sl k)) A) := by
   rcases h with ⟨h1, h2, h3⟩ | ⟨h1, h2, h3⟩
   ·refine ⟨.inl h1, h2, fun e σ a b c => aop_mono ?_ (h3 e σ a b c)⟩
    rintro v s ⟨A, hN, hq⟩
    refine ⟨A, hN, ?_⟩
    rw [h1]
    simpa [Env.upd] using hq
   ·refine ⟨.inr h1, h2, fun e σ a b c => aop_mono ?_ (h3 e σ a b c)⟩
    rintro v s ⟨A, hN, hq⟩
    exact ⟨A, hN, hq _⟩
  obtain ⟨hd, hdp, h⟩ := h'
  refine ⟨?_, stepsV_I hk hl hdn hi r (k + 1) (by omega) (fun o' ho => hw o' (List.mem_cons_of_mem _ ho)) hr⟩
  rintro D e σ hD hwt ⟨⟨F, hF, hQ⟩, hDd, hfr⟩
  refine aop_mono ?_ (h e σ hF.le (fun j hj => ⟨F j, hQ j (hw o List.mem_cons_self j hj) (hwt j hj)⟩) hfr)
  rintro v s ⟨A, hN, hq⟩
  have hdp' : ∀ j, j ∈ dp k -> j < n /\ j ∈ waitsOf o := fun j hj => ⟨by have := hdn k (by omega) j hj; omega, by simpa using List.all_eq_true.1 hdp j hj⟩
  have hother : ∀ t, t ≠ sl k -> (e.upd o.dst v) t = e t := fun t ht => Env.upd_other fun y hy hyu => by
   rcases hd with hd | hd
   ·rw [hd] at hy; cases hy; exact ht hyu.symm
   ·rw [hd] at hy; cases hy
  have hup : ∀ j, j < n -> j ≠ k -> (e.upd o.dst v) (sl j) = e (sl j) := fun j hj hne => hother _ fun e1 => hne (hi j hj k (by omega) e1)
  refine ⟨⟨updF F k A, hF.put k hN, fun j hj hDj => ?_⟩, fun j hj hDj i hji => ?_, fun t ht => ?_⟩
  ·by_cases e1 : j = k
   ·subst e1
    have : updF F j A j = A := by simp [updF]
    rw [this]
    exact hl j _ _ _ _ _ (fun i hi' => by
     have h1 := hdp' i hi'
     have hDi := hwt i h1.2
     exact (hup i h1.1 (fun e2 => by rw [e2, hD] at hDi; cases hDi)).symm) hq
   ·have e3 : D j = true := by unfold updD at hDj; rw [if_neg e1] at hDj; exact hDj
    rw [hup j hj e1]
    have : updF F k A j = F j := by simp [updF, e1]
    rw [this]
    refine hl j _ _ _ _ _ (fun i hi' => ?_) (hk j _ _ _ _ _ (hQ j hj e3) fun b hb => by
     obtain ⟨z, hz⟩ := hF.on j b hb
     rw [hz, hN.le.box _ _ hz])
    have hDi := hDd j hj e3 i hi'
    exact (hup i (by have := hdn j hj i hi'; omega) (fun e2 => by rw [e2, hD] at hDi; cases hDi)).symm
  ·unfold updD at hDj ⊢
   by_cases e1 : j = k
   ·subst e1
    split
    ·rfl
    ·exact hwt i (hdp' i hji).2
   ·rw [if_neg e1] at hDj
    split
    ·rfl
    ·exact hDd j hj hDj i hji
  ·rw [<- hfr t ht]
   exact hother t fun e1 => ht k (by omega) e1.symm
theorem draw_ownV {R : Env -> AS -> Prop} {e : Env} {σ : AS} {l : List Oper} {d : Dum l.toArray} {d' : Dum R} {d2 : Dum e} {d3 : Dum σ} (n : Nat) (sl : Nat -> Nat) (dp : Nat -> List Nat) (Q : Nat -> SlotV) (hn : rowIB l.toArray n = true) (hi : ∀ i, i < n -> ∀ j, j < n -> sl i = sl j -> i = j) (hdn : ∀ k, k < n -> ∀ j, j ∈ dp k -> j < k) (hk : ∀ k V, Keeps (Q k V)) (hl : ∀ k V V' σ v S, (∀ j, j ∈ dp k -> V j = V' j) -> Q k V σ v S -> Q k V' σ v S) {hd tl : List Oper} (h1 : l.take n = hd) (h2 : l.drop n = tl)
  (hs : StepsV P G σ e n sl dp Q 0 hd) (hq : ∀ (F : Nat -> List Nat) e' s, NewF σ s F -> (∀ k, k < n -> Q k (fun i => e' (sl i)) s (e' (sl k)) (F k)) -> (∀ t, (∀ k, k < n -> sl k ≠ t) -> e' t = e t) -> awpOps P G l R tl e' s) : drawW P G l.toArray R e σ d d' d2 d3 := by
 refine draw_inv n (RowF2 σ e n sl dp Q) hn h1 h2 (fun _ => ⟨⟨fun _ => [], NewF.none σ, fun k _ h => (by cases h)⟩, fun k _ h => (by cases h), fun _ _ => rfl⟩) ?_ (fun D e' s hD ⟨⟨F, hF, hQ⟩, _, hfr⟩ => hq F e' s hF (fun k hk' => hQ k hk' (hD k hk')) hfr)
 unfold rowIB at hn
 simp only [Bool.and_eq_true, decide_eq_true_eq, List.all_eq_true, List.mem_range] at hn
 obtain ⟨⟨⟨hns, hb⟩, _⟩, _⟩ := hn
 refine stepsV_I hk hl hdn hi hd 0 (by rw [<- h1]; simp only [List.length_take]; omega) (fun o ho j hj => ?_) hs
 subst h1
 obtain ⟨i, hio⟩ := List.getElem?_of_mem ho
 have hin : i < n := by
  have := (List.getElem?_eq_some_iff.1 hio).1
  simp only [List.length_take] at this; omega
 rw [List.getElem?_take_of_lt hin] at hio
 have := hb i hin
 simp only [List.getElem?_toArray, hio, Bool.and_eq_true, List.all_eq_true, decide_eq_true_eq] at this
 have := this.2 j hj
 omega
end
def isAny : Slot := fun _ _ _ => True
theorem keeps_isAny : Keeps isAny := fun _ _ _ _ _ _ => trivial
theorem le_same {σ : AS} {b : Nat} {z : List AV} (h : σ.box b = some z) : σ.le (σ.setBox b z) := by
 refine ⟨fun c cs hc => ?_, fun c x hc => hc, fun c x hc => hc⟩
 by_cases e : c = b
 ·subst e
  rw [h] at hc; cases hc
  exact AS.set_get
 ·simp only [AS.setBox, if_neg e]; exact hc
theorem LeX.le_of {S : Nat -> Prop} {σ0 σ σ' : AS} (h : LeX S σ σ') (h0 : σ0.le σ) (hS : ∀ b, S b -> σ0.box b = none) : σ0.le σ' :=
 ⟨fun c cs hc => h.box c cs (fun e => by rw [hS c e] at hc; cases hc) (h0.box c cs hc), fun c x hc => h.tip c x (h0.tip c x hc), fun c x hc => h.ty c x (h0.ty c x hc)⟩
theorem NewS.refl (σ : AS) : NewS σ σ [] := ⟨AS.le.refl σ, by simp, by simp, by simp⟩
theorem NewS.one {σ : AS} {b : Nat} (h : σ.fresh b) (z : List AV) : NewS σ (σ.setBox b z) [b] :=
 ⟨(AS.le.refl σ).setBox h.1 z, fun c hc => by simp at hc; subst hc; exact ⟨h.1, h.2.1⟩, by simp, fun c hc => by simp at hc; subst hc; exact ⟨z, AS.set_get⟩⟩
def OwnT' (t : Term) : Slot := fun σ v S => OwnT σ false t v S
theorem keeps_own (t : Term) : Keeps (OwnT' t) := fun _ _ v S h hk => ownT_keep t v S h hk
def z7 : List AV := [.int .u8 0, .bool false, .nil, .str [], .int .i64 0, .nil, .nil]
end
set_option maxRecDepth 20000
section
variable {G : Nat -> AV}
structure TT (G : Nat -> AV) (t : Term) (R : Bool) (N : Int) (T : List UInt8) : Prop where
 w : Pure Tryz.prog G 7 [] (.bool true)
 g : Pure Tryz.prog G 6 [.sl .full [t.enc] []] (.bool false)
 l : ∀ σ, Tri Tryz.prog G 8 [t.enc] σ fun r σ' => ∃ S, OwnT σ' true t r S /\ NewS σ σ' S
 r1 : Pure Tryz.prog G 9 [t.enc] (.bool R)
 s1 : Pure Tryz.prog G 10 [t.enc] (.int .i64 N)
 t1 : Pure Tryz.prog G 11 [t.enc] (.str T)
 c : COwn G t
 k : Pure Tryz.prog G 13 [t.lent, t.enc] (.bool true)
 o : OTri G t
 r2 : Pure Tryz.prog G 15 [t.enc] (.bool R)
 s2 : Pure Tryz.prog G 16 [t.enc] (.int .i64 N)
 t2 : Pure Tryz.prog G 17 [t.enc] (.str T)
 sm : Pure Tryz.prog G 18 [t.enc, t.enc] (.bool true)
 ap : ∀ (vs : List AV) (S : List Nat) (g : Gh) (σ : AS), OwnRs σ [[t], [t]] vs S -> S.Nodup -> Tri Tryz.prog G 19 [.sl g vs []] σ fun r σ' => r = .bool true /\ LeX (fun c => c ∈ S) σ σ'
end
end Go.Proofs.YtdhbdhopnpmboaaGreatDoor
