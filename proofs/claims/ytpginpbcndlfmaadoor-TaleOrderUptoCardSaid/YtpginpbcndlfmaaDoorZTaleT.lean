/- The text of what is seen, on abstract values. -/
import Derived.Test.YtpginpbcndlfmaaDoorZTaleK
import Derived.Test.YtpginpbcndlfmaaDoorZSeenT
import Derived.Test.YtpginpbcndlfmaaDoorZK
set_option linter.unusedVariables false
set_option linter.unusedSimpArgs false
set_option maxRecDepth 20000
set_option linter.defProp false
namespace Go.Proofs.YtpginpbcndlfmaaDoor
open Go Go.Av Go.RowKit
def tbTaleT := And.intro (And.intro (And.intro (And.intro (And.intro @tf3 @tf4) (And.intro @tf5 (And.intro @tf61 @tf9))) (And.intro (And.intro @tf31 @tf38) (And.intro @tf37 (And.intro @tf22 @tf40)))) (And.intro (And.intro (And.intro @tf23 @tf44) (And.intro @tf24 (And.intro @tf46 @tf26))) (And.intro (And.intro @tf53 (And.intro @Term.flat_enc @Term.isv_enc)) (And.intro @Term.fold_enc (And.intro @isv_encs @flat_encs))))) (And.intro (And.intro (And.intro (And.intro @len_encs @ix_encs) (And.intro @isv_lims (And.intro @flat_lims @len_lims))) (And.intro (And.intro @Ended.flat_enc (And.intro @Ended.isv_enc @Ended.fold_enc)) (And.intro @Named.flat_enc (And.intro @Named.isv_enc @Named.fold_enc)))) (And.intro (And.intro (And.intro @Seen.flat_enc @Seen.isv_enc) (And.intro @Seen.fold_enc (And.intro @isv_encE @flat_encE))) (And.intro (And.intro @len_encE (And.intro @ix_encE @isv_encN)) (And.intro @flat_encN (And.intro @len_encN @ix_encN)))))
variable {G : Nat → AV}
/-- from a contract of the library's to one of ours -/
theorem Pure.of_calls2 {P : Program} {f : FuncId} {args : List AV} {v : AV} {u : Value} (hcl : callable P f = true) (hv : ∀ K, VR K v u)
    (h : ∀ K σ w l, Rel G K σ w → VRl K args l → Calls P f l.toArray w fun e w' => e = .returned u ∧ Below w.heap.size w w') : Pure P G f args v := by
  intro σ
  refine ⟨hcl, fun K w l hr hl => ?_⟩
  exact (h K σ w l hr hl).mono fun e w' ⟨he, hb⟩ => ⟨u, v, σ, K, he, ⟨rfl, rfl⟩, hv K, hr.grown hb, Ctx.le.refl K⟩
theorem flatMap_str (xs : List (List UInt8)) : (xs.map AV.str).flatMap flat = xs.map AV.str := by
  induction xs with
  | nil => rfl
  | cons x l ih => simp only [List.map_cons, List.flatMap_cons, ih, flat, List.singleton_append]
theorem join_pure (xs : List (List UInt8)) (sep : List UInt8) (g : Gh) (h1 : xs ≠ []) (hn : xs.length ≤ 1000000) (hl : (Lib.join xs sep).length ≤ 1000000000) : Pure Tryd.prog G 23 [.sl g (xs.map AV.str) [], .str sep] (.str (Lib.join xs sep)) := by
  have h0 : 0 < xs.length := List.length_pos_iff.2 h1
  refine Pure.of_calls2 (u := .string ⟨⟨Lib.join xs sep⟩⟩) (by kernel_rfl) (fun K => .str _) (fun K σ w l hr hl' => ?_)
  match l, hl' with
  | [a, b], ⟨ha, hb, _⟩ =>
    rw [VR.str_iff] at hb
    subst hb
    generalize hx : xs.map AV.str = ys at ha
    cases ha with
    | sl0 a => exact absurd (List.map_eq_nil_iff.1 hx) h1
    | sl _ _ _ sz b off cap f hsz hcap hml himm hv hg =>
      have e1 : (ys ++ []).flatMap flat = xs.map AV.str := by rw [List.append_nil, ← hx, flatMap_str]
      have hlen : ys.length = xs.length := by rw [← hx]; simp
      have hcell : ∀ (j : Nat) x, (xs.map fun s => (⟨⟨s⟩⟩ : ByteArray))[j]? = some x → w.cell? ⟨b, off + j, none⟩ = some (.string x) := by
        intro j x hj
        rw [List.getElem?_map] at hj
        obtain ⟨s, hs, rfl⟩ := Option.map_eq_some_iff.1 hj
        have hjl : j < xs.length := (List.getElem?_eq_some_iff.1 hs).1
        have i1 := himm j (by rw [e1]; simpa using hjl)
        have i2 := hv j (by rw [e1]; simpa using hjl)
        have e2 : ((ys ++ []).flatMap flat)[j]'(by rw [e1]; simpa using hjl) = AV.str s := by
          have : ((ys ++ []).flatMap flat)[j]? = some (AV.str s) := by rw [e1, List.getElem?_map, hs]; rfl
          exact (List.getElem?_eq_some_iff.1 this).2
        rw [e2, VR.str_iff] at i2
        rw [hr.imm _ _ _ i1, i2]
      have i0 := himm 0 (by rw [e1]; simpa using h0)
      have hb : b < w.heap.size := hr.imm_lt i0
      have e3 : (xs.map fun s => (⟨⟨s⟩⟩ : ByteArray)).map (·.data.toList) = xs := by
        rw [List.map_map]
        exact List.map_id'' (fun s => rfl) xs
      have hlen2 : (xs.map fun s => (⟨⟨s⟩⟩ : ByteArray)).length = ys.length := by rw [List.length_map, hlen]
      rw [← hlen2]
      refine (Tryd.strings_Join b off cap (xs.map fun s => (⟨⟨s⟩⟩ : ByteArray)) ⟨⟨sep⟩⟩ w hcell hb (by rw [List.length_map]; omega) (by rw [hlen2]; simpa using hcap) (by rw [e3]; show (Lib.join xs sep).length ≤ _; omega)).mono ?_
      rintro e w' ⟨he, hw⟩
      rw [e3] at he
      exact ⟨he, hw⟩
theorem join2 (a b : List UInt8) : Lib.join [a, b] [32] = a ++ 32 :: b := by
  rw [Lib.join_cons]; simp [Lib.joinTail]
theorem join3 (a b c : List UInt8) : Lib.join [a, b, c] [32] = a ++ 32 :: (b ++ 32 :: c) := by
  rw [Lib.join_cons]; simp [Lib.joinTail]
theorem lineT_pure (hg : GlobT G) (t : Term) (hb : t.bulk ≤ 2000000) : Pure Tryd.prog G 24 [t.enc] (.str (lineT t)) := by
  have h1 := right_pure G t (by omega)
  have h2 := text_pure hg t hb
  unfold lineT
  clear hg hb
  intro σ
  cases e : right t
  · rw [e] at h1
    rw [if_neg (by simp)]
    refine Tri.of_awp mixed Tryd.func24 rfl (by kernel_rfl) (by kernel_rfl) (by simp [Tryd.ntmps24]) Tryd.results24 ?_
    repeat' (first
    | with_reducible refine condW_both (fun _ _ => ?_) (fun _ _ => ?_)
    | with_reducible refine gW_both (fun _ _ => ?_) (fun _ _ => ?_)
    | with_reducible refine condW_split (fun _ => ?_) (fun _ => ?_)
    | with_reducible refine gW_split (fun _ => ?_) (fun _ => ?_)
    | with_reducible refine pickW_split (fun _ => ?_) (fun _ => ?_)
    | (refine newW_intro ?_; intro bx hbx; (try simp only [fresh_box, fresh_tip, fresh_ty] at hbx))
    | (refine newT_plain ?_; intro bx hbx; (try simp only [fresh_box, fresh_tip, fresh_ty] at hbx))
    | refine Pure.use (h1) ?_
    | refine Pure.head (h1) ?_
    | refine storeX_w ?_
    | ((with_reducible refine And.intro ?_ ?_); omega)
    | refine bo_buildSlice (d' := ⟨⟩) ?_
    | (refine draw_all (by kernel_rfl) ?_)
    | refine finish_pure ?_ (by repeat' (first | exact AS.le.refl _ | assumption | (refine le_set (by first | assumption | (simp only [*]; done) | exact AS.le.fresh (by assumption) (by simp only [*])) ?_) | (refine le_ty (by first | assumption | (simp only [*]; done) | exact AS.le.fresh (by assumption) (by simp only [*])) ?_)))
    | simp -dsimp only [↓bp, bq, br, afin, bsk, cWrites, opsWrites, pieceGh, rsk, ne_eq, if_true, if_false, exists_eq_left', forall_const, forall_eq, Nat.reduceLT, Int.reduceSub, Nat.reduceAdd, Nat.reduceSub, Nat.reduceMul, Nat.reduceLeDiff, Nat.reduceEqDiff, Nat.reduceBEq, Nat.reduceBNe, Int.reduceNeg, Int.reduceAdd, Int.reduceMul, Int.reduceLE, Int.reduceLT, Int.reduceEq, Int.reduceToNat, reduceIte, reduceCtorEq, tbTaleT, *])
    all_goals rfl
  · rw [e] at h1
    rw [if_pos rfl]
    refine Tri.of_awp mixed Tryd.func24 rfl (by kernel_rfl) (by kernel_rfl) (by simp [Tryd.ntmps24]) Tryd.results24 ?_
    repeat' (first
    | with_reducible refine condW_both (fun _ _ => ?_) (fun _ _ => ?_)
    | with_reducible refine gW_both (fun _ _ => ?_) (fun _ _ => ?_)
    | with_reducible refine condW_split (fun _ => ?_) (fun _ => ?_)
    | with_reducible refine gW_split (fun _ => ?_) (fun _ => ?_)
    | with_reducible refine pickW_split (fun _ => ?_) (fun _ => ?_)
    | (refine newW_intro ?_; intro bx hbx; (try simp only [fresh_box, fresh_tip, fresh_ty] at hbx))
    | (refine newT_plain ?_; intro bx hbx; (try simp only [fresh_box, fresh_tip, fresh_ty] at hbx))
    | refine Pure.use (h1) ?_
    | refine Pure.head (h1) ?_
    | refine Pure.use (h2) ?_
    | refine Pure.head (h2) ?_
    | refine storeX_w ?_
    | ((with_reducible refine And.intro ?_ ?_); omega)
    | refine bo_buildSlice (d' := ⟨⟩) ?_
    | (refine draw_all (by kernel_rfl) ?_)
    | refine finish_pure ?_ (by repeat' (first | exact AS.le.refl _ | assumption | (refine le_set (by first | assumption | (simp only [*]; done) | exact AS.le.fresh (by assumption) (by simp only [*])) ?_) | (refine le_ty (by first | assumption | (simp only [*]; done) | exact AS.le.fresh (by assumption) (by simp only [*])) ?_)))
    | simp -dsimp only [↓bp, bq, br, afin, bsk, cWrites, opsWrites, pieceGh, rsk, ne_eq, if_true, if_false, exists_eq_left', forall_const, forall_eq, Nat.reduceLT, Int.reduceSub, Nat.reduceAdd, Nat.reduceSub, Nat.reduceMul, Nat.reduceLeDiff, Nat.reduceEqDiff, Nat.reduceBEq, Nat.reduceBNe, Int.reduceNeg, Int.reduceAdd, Int.reduceMul, Int.reduceLE, Int.reduceLT, Int.reduceEq, Int.reduceToNat, reduceIte, reduceCtorEq, tbTaleT, *])
    all_goals rfl
/-- the lines that were put, in a box -/
structure Out (σ0 σ : AS) (b : Nat) (xs : List (List UInt8)) : Prop where
  fr : σ0.fresh b
  ex : ∃ v, σ.box b = some [v] ∧ Buf 1 σ0 σ v (xs.map AV.str)
theorem Out.le {σ0 σ : AS} {b : Nat} {xs : List (List UInt8)} (h : Out σ0 σ b xs) : σ0.le σ := by
  obtain ⟨v, _, h2⟩ := h.ex; exact h2.le
theorem Out.newBox {σ0 σ : AS} {b : Nat} {xs : List (List UInt8)} (h : Out σ0 σ b xs) {c : Nat} (hc : σ.fresh c) (x : List AV) : Out σ0 (σ.setBox c x) b xs := by
  obtain ⟨v, h1, h2⟩ := h.ex
  have hne : b ≠ c := fun e => by subst e; rw [hc.1] at h1; cases h1
  exact ⟨h.fr, v, by simp [AS.setBox, hne, h1], h2.newBox hc x⟩
theorem tsN : aelt Tryd.prog 31 = some (9, 1, 16) := tf31.2.2.2.2.2.2
theorem tsE : el Tryd.prog 31 = some 9 := tf31.2.2.2.1
theorem buf_one {n : Nat} {σ0 σ : AS} {v : AV} {l : List AV} (h : Buf n σ0 σ v l) : one v = true ∧ flat v = [v] ∧ isv v = true := by cases h <;> exact ⟨rfl, rfl, rfl⟩
theorem Buf.setB {n : Nat} {σ0 σ : AS} {v : AV} {l : List AV} (h : Buf n σ0 σ v l) {b : Nat} (hb : σ0.fresh b) (x : List AV) : Buf n σ0 (σ.setBox b x) v l := by
  cases h with
  | nil h => exact .nil (le_set hb h)
  | own b' xs h h0 ht hx => exact .own b' l (le_set hb h) h0 (by simpa [AS.setBox] using ht) hx
theorem putS_tri (xs ws : List (List UInt8)) (h1 : ws ≠ []) (hn : ws.length ≤ 1000000) (hl : (Lib.join ws [32]).length ≤ 1000000000) (hx : xs.length ≤ 1000000000) (σ0 σ : AS) (b : Nat) (h : Out σ0 σ b xs) :
    Tri Tryd.prog G 22 [.sl .full (ws.map AV.str) [], .ptr b 0] σ fun r σ' => r = .tup [] ∧ Out σ0 σ' b (xs ++ [Lib.join ws [32]]) := by
  have hj := join_pure (G := G) ws [32] .full h1 hn hl
  generalize Lib.join ws [32] = s at *
  obtain ⟨hfr, v, hb, hB⟩ := h
  obtain ⟨o1, o2, o3⟩ := buf_one hB
  clear h1 hn hl
  refine Tri.of_awp mixed Tryd.func22 rfl (by kernel_rfl) (by kernel_rfl) (by simp [Tryd.ntmps22]) Tryd.results22 ?_
  repeat' (first
    | with_reducible refine condW_both (fun _ _ => ?_) (fun _ _ => ?_)
    | with_reducible refine gW_both (fun _ _ => ?_) (fun _ _ => ?_)
    | with_reducible refine condW_split (fun _ => ?_) (fun _ => ?_)
    | with_reducible refine gW_split (fun _ => ?_) (fun _ => ?_)
    | with_reducible refine pickW_split (fun _ => ?_) (fun _ => ?_)
    | (refine newW_intro ?_; intro bx hbx; (try simp only [fresh_box, fresh_tip, fresh_ty] at hbx))
    | (refine newT_plain ?_; intro bx hbx; (try simp only [fresh_box, fresh_tip, fresh_ty] at hbx))
    | refine Pure.use (hj) ?_
    | refine Pure.head (hj) ?_
    | (refine build_one tsN (a := .str s) rfl rfl (by omega) ?_)
    | (refine app_buf (ys := [.str s]) hB tsN (asrc_sl tsE) (fun a ha => by simp at ha; subst ha; rfl) (by simp; omega) (fun v3 σ3 hB4 hx4 => ?_))
    | refine storeX_w ?_
    | ((with_reducible refine And.intro ?_ ?_); omega)
    | refine bo_buildSlice (d' := ⟨⟩) ?_
    | (refine draw_all (by kernel_rfl) ?_)
    | refine finish_pure ?_ (by repeat' (first | exact AS.le.refl _ | assumption | (refine le_set (by first | assumption | (simp only [*]; done) | exact AS.le.fresh (by assumption) (by simp only [*])) ?_) | (refine le_ty (by first | assumption | (simp only [*]; done) | exact AS.le.fresh (by assumption) (by simp only [*])) ?_)))
    | simp -dsimp only [↓bp, bq, br, afin, bsk, cWrites, opsWrites, pieceGh, rsk, ne_eq, if_true, if_false, exists_eq_left', forall_const, forall_eq, Nat.reduceLT, Int.reduceSub, Nat.reduceAdd, Nat.reduceSub, Nat.reduceMul, Nat.reduceLeDiff, Nat.reduceEqDiff, Nat.reduceBEq, Nat.reduceBNe, Int.reduceNeg, Int.reduceAdd, Int.reduceMul, Int.reduceLE, Int.reduceLT, Int.reduceEq, Int.reduceToNat, reduceIte, reduceCtorEq, tbTaleT, *])
  obtain ⟨p1, p2, p3⟩ := buf_one hB4
  refine ⟨⟨p3, by rw [p2]; rfl⟩, ?_⟩
  rw [p2]
  refine finishW_some _ (AS.le.refl _) ⟨rfl, hfr, v3, by simp [AS.setBox], ?_⟩
  rw [List.map_append]
  exact Buf.setB hB4 hfr [v3]
theorem lineT_len (t : Term) (hb : t.bulk ≤ 2000000) : (lineT t).length ≤ 800000001 := by
  unfold lineT text
  split
  · rename_i h
    have := said_len t h
    omega
  · simp
theorem itoa_len2 (n : Int) (h0 : -9223372036854775808 ≤ n) (h1 : n ≤ 9223372036854775807) : (itoa n).length ≤ 31 := by
  unfold itoa
  have := decT_len (k := 30) (n := n.natAbs) (by omega) (by have : (10 : Nat) ^ 30 = 1000000000000000000000000000000 := by decide
                                                            omega)
  split <;> simp only [List.length_append, List.length_cons, List.length_nil] <;> omega
def outW : List UInt8 := [111, 117, 116]
def endW : List UInt8 := [101, 110, 100, 101, 100]
def namW : List UInt8 := [110, 97, 109, 101]
theorem outL_eq (t : Term) : Lib.join [outW, lineT t] [32] = outL t := by rw [join2]; rfl
theorem endL_eq (e : Ended) : Lib.join [endW, itoa e.pid, lineT e.reason] [32] = endL e := by rw [join3]; rfl
theorem namL_eq (n : Named) : Lib.join [namW, lineT (atomTm n.name), itoa n.pid] [32] = namL n := by rw [join3]; rfl
theorem verL_eq (n : Int) : Lib.join [[118, 101, 114, 100, 105, 99, 116], itoa n] [32] = verL n := by rw [join2]; rfl
theorem speL_eq (n : Int) : Lib.join [[115, 112, 101, 110, 116], itoa n] [32] = speL n := by rw [join2]; rfl
theorem cloL_eq (n : Int) : Lib.join [[99, 108, 111, 99, 107], itoa n] [32] = cloL n := by rw [join2]; rfl
end Go.Proofs.YtpginpbcndlfmaaDoor
