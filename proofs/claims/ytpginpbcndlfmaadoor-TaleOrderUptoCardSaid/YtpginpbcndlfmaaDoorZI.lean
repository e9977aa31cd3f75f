/- strings.Builder's check whether it was copied, on the machine. -/
import Derived.Test.YtpginpbcndlfmaaDoorZC
import Derived.Shelf.Strings.BuilderX
import Derived.Lib.Strings
import Derived.Lib.Slices
import Derived.Lib.Walk
import Derived.Lib.Builder
import Derived.Lib.AppendStr
import Derived.Lib.UnsafeStr
import Derived.Lib.MakeNoZero
import Derived.Laws.Externs
import Derived.Test.YtpginpbcndlfmaaDoorZB
import Derived.Laws.Tables
set_option linter.unusedVariables false
set_option linter.unusedSimpArgs false
set_option linter.defProp false
namespace Go.Proofs.YtpginpbcndlfmaaDoor
open Go Go.RowKit
set_option maxHeartbeats 1000000 in
set_option maxRecDepth 100000 in
theorem copyCheck_used (b : Nat) (w : World) (h0 : w.cell? ⟨b, 0, none⟩ = some (.pointer (some ⟨b, 0, none⟩))) :
    Calls Tryd.prog 41 #[.pointer (some ⟨b, 0, none⟩)] w fun e w' => e = .returned (.tuple #[]) ∧ w' = w := by
  have mixed : Tryd.prog.follows .mixedOrders = true := by kernel_rfl
  have t72 := Tryd.underlying65; have a72 := Tryd.isAgg65; have z72 := Tryd.sizeOf65; have v72 := Tryd.zeroValue65; have u72 := run_underlying Tryd.underlying65
  have t70 := Tryd.underlying62; have a70 := Tryd.isAgg62; have z70 := Tryd.sizeOf62; have v70 := Tryd.zeroValue62; have u70 := run_underlying Tryd.underlying62
  have t4 := Tryd.underlying4; have a4 := Tryd.isAgg4; have z4 := Tryd.sizeOf4; have v4 := Tryd.zeroValue4; have u4 := run_underlying Tryd.underlying4
  obtain ⟨j, hj, _⟩ : ∃ j, Tryd.prog.info? 65 = some j ∧ j.size = 2 := ⟨_, rfl, by kernel_rfl⟩
  go_enter Tryd.func41, Tryd.ntmps41
  go_wp2
  rw [Lib.run_neq_ptr_same w _ Tryd.underlying62 hj]
  go_wp2
  go_end0
  exact ⟨rfl, rfl⟩
set_option maxHeartbeats 1000000 in
set_option maxRecDepth 100000 in
theorem copyCheck_fresh (b : Nat) (w : World) (h0 : w.cell? ⟨b, 0, none⟩ = some (.pointer none)) (hsh : w.shape? b = some (65, 2)) (hfz : w.frozen? ⟨b, 0, none⟩ = false) :
    Calls Tryd.prog 41 #[.pointer (some ⟨b, 0, none⟩)] w fun e w' => e = .returned (.tuple #[]) ∧ w' = w.setCell ⟨b, 0, none⟩ (.pointer (some ⟨b, 0, none⟩)) := by
  have mixed : Tryd.prog.follows .mixedOrders = true := by kernel_rfl
  have t72 := Tryd.underlying65; have a72 := Tryd.isAgg65; have z72 := Tryd.sizeOf65; have v72 := Tryd.zeroValue65; have u72 := run_underlying Tryd.underlying65
  have t70 := Tryd.underlying62; have a70 := Tryd.isAgg62; have z70 := Tryd.sizeOf62; have v70 := Tryd.zeroValue62; have u70 := run_underlying Tryd.underlying62
  have t4 := Tryd.underlying4; have a4 := Tryd.isAgg4; have z4 := Tryd.sizeOf4; have v4 := Tryd.zeroValue4; have u4 := run_underlying Tryd.underlying4
  have t164 := Tryd.underlying83; have a164 := Tryd.isAgg83; have z164 := Tryd.sizeOf83; have v164 := Tryd.zeroValue83; have u164 := run_underlying Tryd.underlying83
  obtain ⟨j, hj, hjs⟩ : ∃ j, Tryd.prog.info? 65 = some j ∧ j.size = 2 := ⟨_, rfl, by kernel_rfl⟩
  go_enter Tryd.func41, Tryd.ntmps41
  go_wp2
  rw [Lib.run_to_unsafe w ⟨b, 0, none⟩ t70 t164 hj (by rw [hjs]; decide) hsh (Nat.zero_lt_succ 1)]
  simp only [Result.andThen]
  rw [Oper.upon_value]
  go_wp2
  rw [run_callFunc_extern Tryd.func52 (by kernel_rfl) (by kernel_rfl) (by kernel_rfl) (e := Extern.AbiNoEscape.same) (by kernel_rfl)]
  rw [Lib.run_noEscape]
  simp only [Result.andThen]
  rw [Oper.upon_value]
  go_wp2
  rw [Lib.run_from_unsafe w ⟨b, 0, none⟩ t164 t70 hj hsh (by kernel_rfl)]
  simp only [Result.andThen]
  rw [Oper.upon_value]
  go_wp2
  go_end0
  exact ⟨rfl, rfl⟩
end Go.Proofs.YtpginpbcndlfmaaDoor
set_option linter.unusedVariables false
set_option linter.unusedSimpArgs false
set_option maxRecDepth 20000
namespace Go.Proofs.YtpginpbcndlfmaaDoor
open Go Go.Av
def tbBld := And.intro (And.intro (And.intro @tf3 @tf4) (And.intro @tf5 @tf9)) (And.intro (And.intro @tf63 @tf62) (And.intro @tf65 (And.intro @tf68 @tf74)))
variable (G : Nat → AV)
abbrev Bl (σ0 σ : AS) (b : Nat) (xs : List UInt8) : Prop := Bld 65 5 σ0 σ b xs
theorem check_tri {σ : AS} {b : Nat} {p v : AV} (hb : σ.box b = some [p, v]) (ht : σ.ty b = some (65, 2)) (hp : p = .nilptr ∨ p = .ptr b 0) :
    Tri Tryd.prog G 41 [.ptr b 0] σ fun r σ' => r = .tup [] ∧ σ' = σ.setBox b [.ptr b 0, v] := by
  refine ⟨by kernel_rfl, fun K w vals hr hv => ?_⟩
  match vals, hv with
  | [x], ⟨hx, _⟩ =>
    rw [VR.ptr_iff] at hx
    subst hx
    obtain ⟨k1, k2, k3, k4, k5, c, E, hc, hl, hcv⟩ := hr.box b _ hb
    obtain ⟨c2, fz, hc2, hn2⟩ := hr.ty b _ _ ht
    rw [hc] at hc2
    simp only [Option.some.injEq, Obj.cells.injEq] at hc2
    obtain ⟨rfl, rfl, rfl⟩ := hc2
    have h0 := hcv 0 (by simp)
    have h1 := hcv 1 (by simp)
    simp only [List.getElem_cons_zero, List.getElem_cons_succ] at h0 h1
    have hsz : c.size = 2 := hn2
    have hcell : w.cell? ⟨b, 0, none⟩ = some (c.getD 0 Go.undef) := by
      rw [Lib.cell_of_heap hc]
      simp [hsz]
    rcases hp with rfl | rfl
    · rw [VR.nilptr_iff] at h0
      rw [h0] at hcell
      refine (copyCheck_fresh b w hcell (by simp [World.shape?, hc, hsz]) (by simp [World.frozen?, hc])).mono ?_
      rintro e w' ⟨rfl, rfl⟩
      refine ⟨_, .tup [], _, K, rfl, ⟨rfl, rfl⟩, .tup [] #[] rfl (fun j h => by cases h), ?_, Ctx.le.refl K⟩
      have e1 : w.setCell ⟨b, 0, none⟩ (.pointer (some ⟨b, 0, none⟩)) = w.setRow b (c.setIfInBounds 0 (.pointer (some ⟨b, 0, none⟩))) := by
        exact setCell_eq_setRow w b 0 c _ _ _ hc
      rw [e1]
      refine hr.setBox hb hc _ (by simp) (by simp [hsz]) (fun a ha => ?_) (fun j hj => ?_)
      · simp at ha
        rcases ha with rfl | rfl
        · rfl
        · exact k5 _ (by simp)
      · match j, hj with
        | 0, _ => simp [hsz]; exact .ptr b 0
        | 1, _ => simp only [List.getElem_cons_succ, List.getElem_cons_zero]; rw [show (c.setIfInBounds 0 (Value.pointer (some ⟨b, 0, none⟩))).getD 1 Go.undef = c.getD 1 Go.undef by simp [Array.getD_eq_getD_getElem?]]; exact h1
    · rw [VR.ptr_iff] at h0
      rw [h0] at hcell
      refine (copyCheck_used b w hcell).mono ?_
      rintro e w' ⟨rfl, rfl⟩
      exact ⟨_, .tup [], σ, K, rfl, ⟨rfl, (setBox_id hb).symm⟩, .tup [] #[] rfl (fun j h => by cases h), hr, Ctx.le.refl K⟩
theorem tfB : aelt Tryd.prog 63 = some (5, 1, 1) := tf63.2.2.2.2.2.2
theorem tfBE : el Tryd.prog 63 = some 5 := tf63.2.2.2.1
theorem bytesA_len (xs : List UInt8) : (bytesA xs).length = xs.length := by simp [bytesA]
theorem isv_byteA (c : UInt8) : isv (byteA c) = true := rfl
theorem flat_byteA (c : UInt8) : flat (byteA c) = [byteA c] := rfl
theorem buf_flat {σ0 σ : AS} {v : AV} {l : List AV} (h : WBuf 1 5 σ0 σ v l) : flat v = [v] := by cases h <;> rfl
theorem buf_isv {σ0 σ : AS} {v : AV} {l : List AV} (h : WBuf 1 5 σ0 σ v l) : isv v = true := by cases h <;> rfl
theorem writeByte_tri {σ0 σ : AS} {b : Nat} {xs : List UInt8} (h : Bl σ0 σ b xs) (hl : xs.length ≤ 1000000000) (c : UInt8) :
    Tri Tryd.prog G 45 [.ptr b 0, byteA c] σ fun r σ' => Bl σ0 σ' b (xs ++ [c]) := by
  obtain ⟨p, v, h1, h2, h3, h4, h5⟩ := h.box
  have hc := check_tri G (v := v) h1 h.ty h2
  have h3' := h3.setOther h.out h4 [.ptr b 0, v]
  have hB' : Bl σ0 (σ.setBox b [.ptr b 0, v]) b xs := ⟨h.le.setBox h.out _, h.out, h.ty, _, v, by simp [AS.setBox], .inr rfl, h3', h4, h5⟩
  have hbx : (σ.setBox b [.ptr b 0, v]).box b = some [.ptr b 0, v] := by simp [AS.setBox]
  generalize σ.setBox b [.ptr b 0, v] = σ1 at *
  refine Tri.of_awp mixed Tryd.func45 rfl (by kernel_rfl) (by kernel_rfl) (by simp [Tryd.ntmps45]) Tryd.results45 ?_
  repeat' (first
    | with_reducible refine condW_both (fun _ _ => ?_) (fun _ _ => ?_)
    | with_reducible refine gW_both (fun _ _ => ?_) (fun _ _ => ?_)
    | with_reducible refine condW_split (fun _ => ?_) (fun _ => ?_)
    | with_reducible refine gW_split (fun _ => ?_) (fun _ => ?_)
    | with_reducible refine pickW_split (fun _ => ?_) (fun _ => ?_)
    | (refine newW_intro ?_; intro bx hbx; (try simp only [fresh_box, fresh_tip, fresh_ty] at hbx))
    | (refine newT_plain ?_; intro bx hbx; (try simp only [fresh_box, fresh_tip, fresh_ty] at hbx))
    | ((refine Tri.mono hc ?_; rintro r s ⟨rfl, rfl⟩))
    | ((refine app_wb (ys := bytesA [c]) h3' tfB (asrc_sl tfBE) (bytes_ok [c]) (by rw [bytesA_len, bytesA_len]; simp; omega) (fun v2 s2 ha => ?_); have k1 := (ha.keep b _ hbx h4).1; have k2 := buf_flat ha.buf; have k3 := buf_isv ha.buf))
    | refine storeX_w ?_
    | ((with_reducible refine And.intro ?_ ?_); omega)
    | refine bo_buildSlice (d' := ⟨⟩) ?_
    | (refine draw_all (by kernel_rfl) ?_)
    | refine finish_pure ?_ (by repeat' (first | exact AS.le.refl _ | assumption | (refine le_set (by first | assumption | (simp only [*]; done) | exact AS.le.fresh (by assumption) (by simp only [*])) ?_) | (refine le_ty (by first | assumption | (simp only [*]; done) | exact AS.le.fresh (by assumption) (by simp only [*])) ?_)))
    | simp -dsimp only [↓bp, bq, br, afin, bsk, cWrites, opsWrites, pieceGh, rsk, ne_eq, if_true, if_false, exists_eq_left', forall_const, forall_eq, Nat.reduceLT, Int.reduceSub, Nat.reduceAdd, Nat.reduceSub, Nat.reduceMul, Nat.reduceLeDiff, Nat.reduceEqDiff, Nat.reduceBEq, Nat.reduceBNe, Int.reduceNeg, Int.reduceAdd, Int.reduceMul, Int.reduceLE, Int.reduceLT, Int.reduceEq, Int.reduceToNat, reduceIte, reduceCtorEq, tbBld, byteA, *])
  exact finishW_some _ (AS.le.refl _) (hB'.push hbx h4 ha h5)
theorem asrc_bytes (s : List UInt8) : asrc Tryd.prog 9 (.str s) = some (bytesA s) := asrc_str tf9.2.1
theorem writeString_tri {σ0 σ : AS} {b : Nat} {xs : List UInt8} (h : Bl σ0 σ b xs) (ys : List UInt8) (hl : xs.length + ys.length ≤ 1000000000000) :
    Tri Tryd.prog G 34 [.ptr b 0, .str ys] σ fun r σ' => Bl σ0 σ' b (xs ++ ys) := by
  obtain ⟨p, v, h1, h2, h3, h4, h5⟩ := h.box
  have hc := check_tri G (v := v) h1 h.ty h2
  have h3' := h3.setOther h.out h4 [.ptr b 0, v]
  have hB' : Bl σ0 (σ.setBox b [.ptr b 0, v]) b xs := ⟨h.le.setBox h.out _, h.out, h.ty, _, v, by simp [AS.setBox], .inr rfl, h3', h4, h5⟩
  have hbx : (σ.setBox b [.ptr b 0, v]).box b = some [.ptr b 0, v] := by simp [AS.setBox]
  generalize σ.setBox b [.ptr b 0, v] = σ1 at *
  refine Tri.of_awp mixed Tryd.func34 rfl (by kernel_rfl) (by kernel_rfl) (by simp [Tryd.ntmps34]) Tryd.results34 ?_
  repeat' (first
    | with_reducible refine condW_both (fun _ _ => ?_) (fun _ _ => ?_)
    | with_reducible refine gW_both (fun _ _ => ?_) (fun _ _ => ?_)
    | with_reducible refine condW_split (fun _ => ?_) (fun _ => ?_)
    | with_reducible refine gW_split (fun _ => ?_) (fun _ => ?_)
    | with_reducible refine pickW_split (fun _ => ?_) (fun _ => ?_)
    | (refine newW_intro ?_; intro bx hbx; (try simp only [fresh_box, fresh_tip, fresh_ty] at hbx))
    | (refine newT_plain ?_; intro bx hbx; (try simp only [fresh_box, fresh_tip, fresh_ty] at hbx))
    | ((refine Tri.mono hc ?_; rintro r s ⟨rfl, rfl⟩))
    | ((refine app_wb (ys := bytesA ys) h3' tfB (asrc_bytes ys) (bytes_ok ys) (by rw [bytesA_len, bytesA_len]; omega) (fun v2 s2 ha => ?_); have k1 := (ha.keep b _ hbx h4).1; have k2 := buf_flat ha.buf; have k3 := buf_isv ha.buf))
    | refine storeX_w ?_
    | ((with_reducible refine And.intro ?_ ?_); omega)
    | refine bo_buildSlice (d' := ⟨⟩) ?_
    | (refine draw_all (by kernel_rfl) ?_)
    | refine finish_pure ?_ (by repeat' (first | exact AS.le.refl _ | assumption | (refine le_set (by first | assumption | (simp only [*]; done) | exact AS.le.fresh (by assumption) (by simp only [*])) ?_) | (refine le_ty (by first | assumption | (simp only [*]; done) | exact AS.le.fresh (by assumption) (by simp only [*])) ?_)))
    | simp -dsimp only [↓bp, bq, br, afin, bsk, cWrites, opsWrites, pieceGh, rsk, ne_eq, if_true, if_false, exists_eq_left', forall_const, forall_eq, Nat.reduceLT, Int.reduceSub, Nat.reduceAdd, Nat.reduceSub, Nat.reduceMul, Nat.reduceLeDiff, Nat.reduceEqDiff, Nat.reduceBEq, Nat.reduceBNe, Int.reduceNeg, Int.reduceAdd, Int.reduceMul, Int.reduceLE, Int.reduceLT, Int.reduceEq, Int.reduceToNat, reduceIte, reduceCtorEq, tbBld, *])
  exact finishW_some _ (AS.le.refl _) (hB'.push hbx h4 ha h5)
theorem string_tri {σ0 σ : AS} {b : Nat} {xs : List UInt8} (h : Bl σ0 σ b xs) (hl : xs.length ≤ 1000000000000) :
    Tri Tryd.prog G 35 [.ptr b 0] σ fun r σ' => r = .str xs ∧ σ' = σ0 := by
  obtain ⟨p, v, h1, h2, h3, h4, h5⟩ := h.box
  revert h3
  generalize hbs : bytesA xs = bs
  intro h3
  cases h3 with
  | nil hle =>
    have hx : xs = [] := by cases xs with | nil => rfl | cons _ _ => cases hbs
    subst hx
    clear h5
    refine Tri.of_awp mixed Tryd.func35 rfl (by kernel_rfl) (by kernel_rfl) (by simp [Tryd.ntmps35]) Tryd.results35 ?_
    repeat' (first
    | with_reducible refine condW_both (fun _ _ => ?_) (fun _ _ => ?_)
    | with_reducible refine gW_both (fun _ _ => ?_) (fun _ _ => ?_)
    | with_reducible refine condW_split (fun _ => ?_) (fun _ => ?_)
    | with_reducible refine gW_split (fun _ => ?_) (fun _ => ?_)
    | with_reducible refine pickW_split (fun _ => ?_) (fun _ => ?_)
    | (refine newW_intro ?_; intro bx hbx; (try simp only [fresh_box, fresh_tip, fresh_ty] at hbx))
    | (refine newT_plain ?_; intro bx hbx; (try simp only [fresh_box, fresh_tip, fresh_ty] at hbx))
    | refine storeX_w ?_
    | ((with_reducible refine And.intro ?_ ?_); omega)
    | refine bo_buildSlice (d' := ⟨⟩) ?_
    | (refine draw_all (by kernel_rfl) ?_)
    | refine finish_pure ?_ (by repeat' (first | exact AS.le.refl _ | assumption | (refine le_set (by first | assumption | (simp only [*]; done) | exact AS.le.fresh (by assumption) (by simp only [*])) ?_) | (refine le_ty (by first | assumption | (simp only [*]; done) | exact AS.le.fresh (by assumption) (by simp only [*])) ?_)))
    | simp -dsimp only [↓bp, bq, br, afin, bsk, cWrites, opsWrites, pieceGh, rsk, ne_eq, if_true, if_false, exists_eq_left', forall_const, forall_eq, Nat.reduceLT, Int.reduceSub, Nat.reduceAdd, Nat.reduceSub, Nat.reduceMul, Nat.reduceLeDiff, Nat.reduceEqDiff, Nat.reduceBEq, Nat.reduceBNe, Int.reduceNeg, Int.reduceAdd, Int.reduceMul, Int.reduceLE, Int.reduceLT, Int.reduceEq, Int.reduceToNat, reduceIte, reduceCtorEq, tbBld, *])
  | row r _ hle g0 g1 gb gx =>
    have hne : xs ≠ [] := h5 (by simp)
    have hlen : bs.length = xs.length := by rw [← hbs, bytesA_len]
    have hp : (0 : Int) < bs.length := by rw [hlen]; have := List.length_pos_iff.2 hne; omega
    have hp' : 0 < bs.length := by omega
    have gb' : σ.box r = some (xs.map fun c => .int .u8 c.toNat) := by rw [gb, ← hbs, flat_bytesA]; rfl
    clear h5 gx
    have hdel : σ0.le (σ.delBox r) := ⟨fun i cs hi => by
      have hne : i ≠ r := fun e => by subst e; rw [g0] at hi; cases hi
      show (if i = r then none else σ.box i) = some cs
      rw [if_neg hne]; exact h.le.box _ _ hi, fun i m hi => h.le.tip _ _ hi, h.le.ty⟩
    refine Tri.of_awp mixed Tryd.func35 rfl (by kernel_rfl) (by kernel_rfl) (by simp [Tryd.ntmps35]) Tryd.results35 ?_
    repeat' (first
    | with_reducible refine condW_both (fun _ _ => ?_) (fun _ _ => ?_)
    | with_reducible refine gW_both (fun _ _ => ?_) (fun _ _ => ?_)
    | with_reducible refine condW_split (fun _ => ?_) (fun _ => ?_)
    | with_reducible refine gW_split (fun _ => ?_) (fun _ => ?_)
    | with_reducible refine pickW_split (fun _ => ?_) (fun _ => ?_)
    | (refine newW_intro ?_; intro bx hbx; (try simp only [fresh_box, fresh_tip, fresh_ty] at hbx))
    | (refine newT_plain ?_; intro bx hbx; (try simp only [fresh_box, fresh_tip, fresh_ty] at hbx))
    | (refine ustrW_row (E := 5) (l := xs) tf74.2.1 (by kernel_rfl) gb' hne rfl ?_)
    | refine storeX_w ?_
    | ((with_reducible refine And.intro ?_ ?_); omega)
    | refine bo_buildSlice (d' := ⟨⟩) ?_
    | (refine draw_all (by kernel_rfl) ?_)
    | refine finish_pure ?_ (by repeat' (first | exact AS.le.refl _ | assumption | (refine le_set (by first | assumption | (simp only [*]; done) | exact AS.le.fresh (by assumption) (by simp only [*])) ?_) | (refine le_ty (by first | assumption | (simp only [*]; done) | exact AS.le.fresh (by assumption) (by simp only [*])) ?_)))
    | simp -dsimp only [↓bp, bq, br, afin, bsk, cWrites, opsWrites, pieceGh, rsk, ne_eq, if_true, if_false, exists_eq_left', forall_const, forall_eq, Nat.reduceLT, Int.reduceSub, Nat.reduceAdd, Nat.reduceSub, Nat.reduceMul, Nat.reduceLeDiff, Nat.reduceEqDiff, Nat.reduceBEq, Nat.reduceBNe, Int.reduceNeg, Int.reduceAdd, Int.reduceMul, Int.reduceLE, Int.reduceLT, Int.reduceEq, Int.reduceToNat, reduceIte, reduceCtorEq, tbBld, *])
    all_goals skip
end Go.Proofs.YtpginpbcndlfmaaDoor
