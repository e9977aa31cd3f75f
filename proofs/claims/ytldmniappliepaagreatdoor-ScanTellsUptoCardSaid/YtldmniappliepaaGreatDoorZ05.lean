/- Tokens, what they are seen as; the kit's Same of them. -/
import Derived.Test.YtldmniappliepaaGreatDoorZ04
import Derived.Shelf.Strings.BuilderX
import Derived.Lib.Strings
import Derived.Lib.Slices
import Derived.Lib.Walk
import Derived.Lib.Builder
import Derived.Lib.AppendStr
import Derived.Lib.UnsafeStr
import Derived.Lib.MakeNoZero
import Derived.Laws.Externs
import Derived.Test.YtldmniappliepaaGreatDoorChecked
import Derived.KernelRfl
import Derived.Laws.Tables
set_option linter.unusedVariables false
set_option linter.unusedSimpArgs false
set_option maxRecDepth 20000
set_option linter.defProp false
namespace Go.Proofs.YtldmniappliepaaGreatDoor
open Go Go.Av
def tbScnD := And.intro (And.intro (And.intro @tf3 @tf4) (And.intro @tf5 (And.intro @tf9 @tf43))) (And.intro (And.intro @tf23 (And.intro @tf41 @isv_rowOf)) (And.intro @flat_rowOf (And.intro @len_rowOf @ix_rowOf)))
variable (G : Nat → AV)
def Tok.enc (x : Tok) : AV := .agg [.int .u8 x.kind, .str x.text, .int .i64 x.pos]
theorem Tok.flat_enc (x : Tok) : flat x.enc = [.int .u8 x.kind, .str x.text, .int .i64 x.pos] := by simp only [Tok.enc, flat]
theorem Tok.isv_enc (x : Tok) : isv x.enc = true := by simp only [Tok.enc, isv]
theorem Tok.fold_enc (x : Tok) : AV.agg [.int .u8 x.kind, .str x.text, .int .i64 x.pos] = x.enc := by simp only [Tok.enc]
theorem Tok.len_flat (x : Tok) : (flat x.enc).length = 3 := by rw [x.flat_enc]; rfl
theorem Tok.ones (x : Tok) : ∀ d, d ∈ flat x.enc → Av.one d = true := fun d hd => by rw [x.flat_enc] at hd; simp at hd; rcases hd with rfl | rfl | rfl <;> rfl
theorem eqK_tok : eqK Tryz.prog 43 = some [.int .u8, .str, .int .i64] := by decide +kernel
theorem neqTok (x y : Tok) : abin Tryz.prog .neq 43 x.enc y.enc = some (.bool (decide (¬ x = y))) := by
  have e : fldEq [.int .u8, .str, .int .i64] [.int .u8 x.kind, .str x.text, .int .i64 x.pos] [.int .u8 y.kind, .str y.text, .int .i64 y.pos] = some (decide ((x.kind : Int) = y.kind) && (decide (x.text = y.text) && (decide ((x.pos : Int) = y.pos) && true))) := by
    rw [fe_int, fe_str, fe_int, fe_nil]; rfl
  unfold Tok.enc
  rw [abin_agg, eqK_tok]
  simp only [Option.bind_some, e]
  have : (decide ((x.kind : Int) = y.kind) && (decide (x.text = y.text) && (decide ((x.pos : Int) = y.pos) && true))) = decide (x = y) := by
    rw [Bool.eq_iff_iff]
    simp only [Bool.and_eq_true, decide_eq_true_eq, and_true]
    constructor
    · rintro ⟨h1, h2, h3⟩; cases x; cases y; simp only at h1 h2 h3; rw [h2, Int.ofNat_inj.1 h1, Int.ofNat_inj.1 h3]
    · rintro rfl; exact ⟨rfl, rfl, rfl⟩
  rw [this]
  simp [aeq]
set_option maxHeartbeats 1000000 in
theorem sameToks_pure (l r : List Tok) (hl : l.length ≤ 1000000000) (hr : r.length ≤ 1000000000) : Pure Tryz.prog G 8 [rowOf Tok.enc l, rowOf Tok.enc r] (.bool (decide (l = r))) := by
  intro σ
  refine Tri.of_awp mixed Tryz.func8 rfl (by kernel_rfl) (by kernel_rfl) (by simp [Tryz.ntmps8]) Tryz.results8 ?_
  repeat' (first | refine xs ?_ ?_ <;> intros | ((first | refine xh ?_ | refine xi ?_); intro bx hbx; (try simp only [fb] at hbx)) | refine xj ?_ | ((with_reducible refine And.intro ?_ ?_); omega) | refine bo_buildSlice (d' := ⟨⟩) ?_ | refine xk (by kernel_rfl) ?_ | refine xf ?_ (by repeat' first | exact lr _ | assumption | refine ls ?_ ?_ | refine lt ?_ ?_ | simp only [*]; done | simp only [fb, *, not_false_eq_true, and_self]; done | exact lf ‹_› (by simp only [*])) | refine finish_two ?_ (by repeat' first | exact lr _ | assumption | refine ls ?_ ?_ | refine lt ?_ ?_ | simp only [*]; done | simp only [fb, *, not_false_eq_true, and_self]; done | exact lf ‹_› (by simp only [*])) | simp -dsimp only [↓bp, bq, br, seval, tbScnD, Tok.flat_enc, Tok.isv_enc, Tok.fold_enc, *])
  rotate_right
  · skip
    refine loop_keep mixed (fun n e => ∃ i : Nat, i ≤ (l).length ∧ n = (l).length - i ∧ e 5 = .int .i64 i ∧ l.take i = r.take i) (l).length
        ⟨0, by omega, by omega, by simp -dsimp only [↓bp, bq, br, seval, tbScnD, Tok.flat_enc, Tok.isv_enc, Tok.fold_enc]; first | done | rfl, rfl⟩ ?_
    rintro n v ⟨i, hi, rfl, h5, htk⟩
    simp -dsimp only [↓bp, bq, br, seval, tbScnD, Tok.flat_enc, Tok.isv_enc, Tok.fold_enc] at h5
    simp -dsimp only [↓bp, bq, br, seval, tbScnD, Tok.flat_enc, Tok.isv_enc, Tok.fold_enc, h5]
    refine condW_dec (fun hlt => ?_) (fun hge => ?_)
    · obtain ⟨x, hx⟩ : ∃ x, l[i]? = some x := ⟨_, List.getElem?_eq_getElem (by omega)⟩
      obtain ⟨y, hy⟩ : ∃ y, r[i]? = some y := ⟨_, List.getElem?_eq_getElem (by omega)⟩
      have hq := neqTok x y
      clear hi hlt
      repeat' (first | refine xs ?_ ?_ <;> intros | ((first | refine xh ?_ | refine xi ?_); intro bx hbx; (try simp only [fb] at hbx)) | refine xj ?_ | ((with_reducible refine And.intro ?_ ?_); omega) | refine bo_buildSlice (d' := ⟨⟩) ?_ | refine xk (by kernel_rfl) ?_ | refine xf ?_ (by repeat' first | exact lr _ | assumption | refine ls ?_ ?_ | refine lt ?_ ?_ | simp only [*]; done | simp only [fb, *, not_false_eq_true, and_self]; done | exact lf ‹_› (by simp only [*])) | refine finish_two ?_ (by repeat' first | exact lr _ | assumption | refine ls ?_ ?_ | refine lt ?_ ?_ | simp only [*]; done | simp only [fb, *, not_false_eq_true, and_self]; done | exact lf ‹_› (by simp only [*])) | simp -dsimp only [↓bp, bq, br, seval, tbScnD, Tok.flat_enc, Tok.isv_enc, Tok.fold_enc, hq, *])
      · have hxy : l ≠ r := fun e => by subst e; rw [hx] at hy; simp only [Option.some.injEq] at hy; subst hy; simp_all
        simp [hxy]
      · have hxy : x = y := by simp_all
        subst hxy
        have hlt := (List.getElem?_eq_some_iff.1 hx).1
        exact ⟨l.length - (i + 1), by omega, i + 1, by omega, rfl, by rw [wrap_nat (by omega) (by omega)]; rfl, take_next htk hx hy⟩
    · have : i = l.length := by omega
      subst this
      have hlr : l = r := take_all (by omega) htk
      clear hi hge
      repeat' (first | refine xs ?_ ?_ <;> intros | ((first | refine xh ?_ | refine xi ?_); intro bx hbx; (try simp only [fb] at hbx)) | refine xj ?_ | ((with_reducible refine And.intro ?_ ?_); omega) | refine bo_buildSlice (d' := ⟨⟩) ?_ | refine xk (by kernel_rfl) ?_ | refine xf ?_ (by repeat' first | exact lr _ | assumption | refine ls ?_ ?_ | refine lt ?_ ?_ | simp only [*]; done | simp only [fb, *, not_false_eq_true, and_self]; done | exact lf ‹_› (by simp only [*])) | refine finish_two ?_ (by repeat' first | exact lr _ | assumption | refine ls ?_ ?_ | refine lt ?_ ?_ | simp only [*]; done | simp only [fb, *, not_false_eq_true, and_self]; done | exact lf ‹_› (by simp only [*])) | simp -dsimp only [↓bp, bq, br, seval, tbScnD, Tok.flat_enc, Tok.isv_enc, Tok.fold_enc, *])
      all_goals simp [hlr]
  · have : l ≠ r := fun e => by subst e; simp_all
    simp [this]
end Go.Proofs.YtldmniappliepaaGreatDoor
namespace Go.Proofs.YtldmniappliepaaGreatDoor
open Go Go.RowKit
end Go.Proofs.YtldmniappliepaaGreatDoor
namespace Go.Av
open Go Go.RowKit
theorem fresh_ne {σ : AS} {b c : Nat} {z : List AV} (h : σ.box b = some z) (hc : σ.fresh c) : ¬ b = c ∧ ¬ c = b := by
  have : ¬ b = c := fun e => by subst e; rw [hc.1] at h; cases h
  exact ⟨this, fun e => this e.symm⟩
theorem Tri.back {P : Program} {G : Nat → AV} {f : FuncId} {args : List AV} {σ : AS} {Q : AV → Prop} (h : Tri P G f args σ fun r σ' => Q r ∧ σ.le σ') : Tri P G f args σ fun r σ' => Q r ∧ σ' = σ :=
  ⟨h.1, fun K w vals hr hv => (h.2 K w vals hr hv).mono fun e w' ⟨v, r, σ', K', he, ⟨hQ, hl⟩, h1, h2, h3⟩ => ⟨v, r, σ, K', he, ⟨hQ, rfl⟩, h1, h2.weaken hl, h3⟩⟩
inductive WBuf (n : Nat) (E : TypeId) (σ0 σ : AS) : AV → List AV → Prop
  | nil (h : σ0.le σ) : WBuf n E σ0 σ .nil []
  | row (b : Nat) (xs : List AV) (h : σ0.le σ) (h0 : σ0.box b = none) (h1 : σ0.tip b = none) (hb : σ.box b = some (xs.flatMap flat)) (hx : ∀ a, a ∈ xs → (flat a).length = n ∧ isv a = true) : WBuf n E σ0 σ (.bs b xs.length n E) xs
theorem WBuf.le {n : Nat} {E : TypeId} {σ0 σ : AS} {v : AV} {xs : List AV} (h : WBuf n E σ0 σ v xs) : σ0.le σ := by cases h <;> assumption
theorem flatMap_len {n : Nat} : ∀ (xs : List AV), (∀ a, a ∈ xs → (flat a).length = n) → (xs.flatMap flat).length = xs.length * n
  | [], _ => by simp
  | x :: xs, h => by
    rw [List.flatMap_cons, List.length_append, h x (by simp), flatMap_len xs fun a ha => h a (by simp [ha]), List.length_cons, Nat.succ_mul, Nat.add_comm]
theorem AS.le.delSet {σ0 σ : AS} (h : σ0.le σ) {b b' : Nat} (hb : σ0.box b = none) (hb' : σ0.box b' = none) (z : List AV) : σ0.le ((σ.delBox b).setBox b' z) := by
  refine ⟨fun i cs hi => ?_, fun i m hi => h.tip _ _ hi, h.ty⟩
  have h1 : i ≠ b := fun e => by subst e; rw [hb] at hi; cases hi
  have h2 : i ≠ b' := fun e => by subst e; rw [hb'] at hi; cases hi
  show (if i = b' then _ else if i = b then none else σ.box i) = some cs
  rw [if_neg h2, if_neg h1]; exact h.box _ _ hi
end Go.Av
namespace Go.Av
open Go Go.RowKit
variable {P : Program} {e : Env} {σ : AS}
end Go.Av
namespace Go.Av
open Go Go.RowKit
def notRow : AV → Nat → Prop
  | .bs r _ _ _, c => c ≠ r
  | _, _ => True
structure WApp (n : Nat) (E : TypeId) (σ0 σ : AS) (v : AV) (xs : List AV) (v' : AV) (σ' : AS) : Prop where
  buf : WBuf n E σ0 σ' v' xs
  keep : ∀ c z, σ.box c = some z → notRow v c → σ'.box c = some z ∧ notRow v' c
  ty : σ'.ty = σ.ty
  ne : v' ≠ .nil → v = .nil → xs ≠ []
theorem app_wb {P : Program} {n by_ : Nat} {σ0 σ : AS} {v x : AV} {xs ys : List AV} {t tx E : TypeId} {K : AV → AS → Prop} {d : Dum σ} {d' : Dum K} (hB : WBuf n E σ0 σ v xs) (he : aelt P t = some (E, n, by_)) (hs : asrc P tx x = some ys)
    (hys : ∀ a, a ∈ ys → (Av.flat a).length = n ∧ isv a = true) (hb : (xs.length + ys.length) * by_ ≤ 140737488355328) (hK : ∀ v' σ', WApp n E σ0 σ v (xs ++ ys) v' σ' → K v' σ') : appW P σ t tx v x K d d' := by
  cases hB with
  | nil h =>
    by_cases hy : ys = []
    · subst hy
      refine .inl ?_
      unfold aappend
      rw [he, hs]
      refine ⟨fun a ha => (by cases ha), by simp, fun _ => hK _ _ ⟨.nil h, fun c z hc _ => ⟨hc, trivial⟩, rfl, fun hn => absurd rfl hn⟩, fun hy => absurd rfl hy⟩
    · refine .inr (.inl ?_)
      unfold aappendM
      rw [he, hs]
      refine ⟨fun a ha => (hys a ha).1, hy, by simpa using hb, fun b hf => hK _ _ ⟨?_, fun c z hc _ => ?_, rfl, fun _ _ => by simpa using hy⟩⟩
      · have hf0 := h.fresh hf
        exact .row b ys (h.setBox hf0.1 _) hf0.1 hf0.2.1 (by simp [AS.setBox]) hys
      · have := fresh_ne hc hf
        exact ⟨by simp only [AS.setBox, if_neg this.1]; exact hc, this.1⟩
  | row b xs h h0 h1 hbx hx =>
    refine .inr (.inl ?_)
    unfold aappendM
    rw [he, hs]
    have hl := flatMap_len xs fun a ha => (hx a ha).1
    refine ⟨fun a ha => (hys a ha).1, ⟨rfl, rfl⟩, _, hbx, by rw [hl]; exact Nat.le_refl _, hb, fun b' hb' => ?_⟩
    have h0' : σ0.box b' = none ∧ σ0.tip b' = none := by
      rcases hb' with rfl | hf
      · exact ⟨h0, h1⟩
      · exact ⟨(h.fresh hf).1, (h.fresh hf).2.1⟩
    have e1 : (xs.flatMap flat).take (xs.length * n) ++ ys.flatMap flat = (xs ++ ys).flatMap flat := by
      rw [List.take_of_length_le (by rw [hl]; exact Nat.le_refl _), List.flatMap_append]
    have hK' := hK (.bs b' (xs ++ ys).length n E) ((σ.delBox b).setBox b' ((xs ++ ys).flatMap flat)) ⟨.row b' (xs ++ ys) (h.delSet h0 h0'.1 _) h0'.1 h0'.2 (by simp [AS.setBox]) fun a ha => by
      rcases List.mem_append.1 ha with ha | ha
      · exact hx a ha
      · exact hys a ha, fun c z hc hn => by
        have h2 : c ≠ b' := by
          rcases hb' with rfl | hf
          · exact hn
          · exact (fresh_ne hc hf).1
        refine ⟨?_, h2⟩
        show (if c = b' then _ else if c = b then none else σ.box c) = some z
        rw [if_neg h2, if_neg hn]; exact hc, rfl, fun _ hn => by cases hn⟩
    rw [← e1, List.length_append] at hK'
    exact hK'
theorem WBuf.setOther {n : Nat} {E : TypeId} {σ0 σ : AS} {v : AV} {xs : List AV} (h : WBuf n E σ0 σ v xs) {b : Nat} (hb : σ0.box b = none) (hn : notRow v b) (z : List AV) : WBuf n E σ0 (σ.setBox b z) v xs := by
  cases h with
  | nil h => exact .nil (h.setBox hb z)
  | row r xs h h0 h1 hbx hx => exact .row r xs (h.setBox hb z) h0 h1 (by simp only [AS.setBox, if_neg (Ne.symm hn)]; exact hbx) hx
theorem Tri.tupBs {P : Program} {G : Nat → AV} {f : FuncId} {args : List AV} {σ : AS} {n s : Nat} {E : TypeId} {xs rest : List AV} (hx : ∀ a, a ∈ xs → (flat a).length = s ∧ isv a = true) (hn : xs.length = n)
    (h : Tri P G f args σ fun r σ' => ∃ b, r = .tup (.bs b n s E :: rest) ∧ σ.le σ' ∧ σ.box b = none ∧ σ.tip b = none ∧ σ'.box b = some (xs.flatMap flat)) : Tri P G f args σ fun r σ' => Le r (.tup (.sl .none xs [] :: rest)) ∧ σ' = σ := by
  refine Tri.back (Tri.freezeRes h fun r σ' ⟨b, hr, hl, h0, h1, h2⟩ => ?_)
  subst hr
  refine ⟨b, n, s, xs, _, .tup (.sl (.own b) xs [] :: rest), h2, ⟨hn, rfl, hx⟩, Has.tup 0 (by simp) Has.bs, .tup _ _ (by simp) (fun j g1 g2 => ?_), Le.tup (.cons Le.gh (Les.refl rest)), AS.froze_le hl h0 h1⟩
  cases j with
  | zero => exact .here E
  | succ j => exact .same _
theorem WBuf.newBox {n : Nat} {E : TypeId} {σ0 σ : AS} {v : AV} {xs : List AV} (h : WBuf n E σ0 σ v xs) {c : Nat} (hc : σ.fresh c) (z : List AV) : WBuf n E σ0 (σ.setBox c z) v xs ∧ notRow v c := by
  have hc0 := h.le.fresh hc
  have hn : notRow v c := by
    cases h with
    | nil _ => trivial
    | row r xs h h0 h1 hbx hx => exact (fresh_ne hbx hc).2
  exact ⟨h.setOther hc0.1 hn z, hn⟩
theorem WBuf.len {P : Program} {n : Nat} {E : TypeId} {σ0 σ : AS} {v : AV} {xs : List AV} (h : WBuf n E σ0 σ v xs) {t : TypeId} : ablt P .len #[t] [v] = if (el P t).isSome then some (.int .i64 xs.length) else none := by
  cases h with
  | nil _ => rw [l_nil]; rfl
  | row r xs h h0 h1 hbx hx => rw [l_bs]
theorem WBuf.form {n : Nat} {E : TypeId} {σ0 σ : AS} {v : AV} {xs : List AV} (h : WBuf n E σ0 σ v xs) (hne : xs ≠ []) : ∃ r, v = .bs r xs.length n E ∧ σ.box r = some (xs.flatMap flat) ∧ σ0.box r = none ∧ σ0.tip r = none := by
  cases h with
  | nil _ => exact absurd rfl hne
  | row r xs h h0 h1 hbx hx => exact ⟨r, rfl, hbx, h0, h1⟩
def byteA (c : UInt8) : AV := .int .u8 c.toNat
def bytesA (s : List UInt8) : List AV := s.map byteA
structure Bld (T E : TypeId) (σ0 σ : AS) (b : Nat) (xs : List UInt8) : Prop where
  le : σ0.le σ
  out : σ0.box b = none
  ty : σ.ty b = some ((T : TyE), 2)
  box : ∃ p v, σ.box b = some [p, v] ∧ (p = .nilptr ∨ p = .ptr b 0) ∧ WBuf 1 E σ0 σ v (bytesA xs) ∧ notRow v b ∧ (v ≠ .nil → xs ≠ [])
end Go.Av
set_option maxRecDepth 100000
namespace Go.Proofs.YtldmniappliepaaGreatDoor
open Go Go.Av
theorem tf89 : tk Tryz.prog 89 = some (false, 1) ∧ sk Tryz.prog 89 = .oth ∧ (Tryz.prog.underlying 89).isSome = true ∧ el Tryz.prog 89 = none ∧ by_ Tryz.prog 89 = some 16 ∧ ifc Tryz.prog 89 = true := ⟨by kernel_rfl, by kernel_rfl, by kernel_rfl, by kernel_rfl, by kernel_rfl, by kernel_rfl⟩
end Go.Proofs.YtldmniappliepaaGreatDoor
set_option maxRecDepth 20000
namespace Go.Proofs.YtldmniappliepaaGreatDoor
open Go Go.Av
variable (G : Nat → AV)
theorem tfB : aelt Tryz.prog 37 = some (5, 1, 1) := tf37.2.2.2.2.2.2
theorem tfBE : el Tryz.prog 37 = some 5 := tf37.2.2.2.1
theorem bytesA_len (xs : List UInt8) : (bytesA xs).length = xs.length := by simp [bytesA]
end Go.Proofs.YtldmniappliepaaGreatDoor
set_option maxRecDepth 20000
namespace Go.Proofs.YtldmniappliepaaGreatDoor
open Go Go.Av
variable (G : Nat → AV)
end Go.Proofs.YtldmniappliepaaGreatDoor
set_option maxRecDepth 20000
namespace Go.Proofs.YtldmniappliepaaGreatDoor
open Go Go.Av
variable (G : Nat → AV)
def lastOk (l : List UInt32) : Bool := match l[l.length - 1]? with | some x => decide ((x.toNat : Int) ≠ 0) | none => false
def wr (t : Term) : Bool :=
  decide (t.knd = 1) && decide (t.text = []) && decide (t.num = 0) && decide ((t.items.length : Int) + t.tail.length = 0) && decide ((t.limbs.length : Int) ≤ 32) && (decide ((t.limbs.length : Int) = 0) && !t.neg || decide (0 < (t.limbs.length : Int)) && lastOk t.limbs)
def bare (t : Term) (text num items tail : Bool) : Bool :=
  !t.neg && decide ((t.limbs.length : Int) = 0) && (text || decide (t.text = [])) && (num || decide (t.num = 0)) && (items || decide ((t.items.length : Int) = 0)) && (tail || decide ((t.tail.length : Int) = 0))
end Go.Proofs.YtldmniappliepaaGreatDoor
set_option maxRecDepth 20000
namespace Go.Proofs.YtldmniappliepaaGreatDoor
open Go Go.Av
variable (G : Nat → AV)
def head (t : Term) : Int × Int × Bool :=
  if t.knd = 2 then (1, 0, bare t true false false false && decide ((t.text.length : Int) ≤ 40))
  else if t.knd = 3 ∨ t.knd = 5 then (1, 0, bare t false true false false && decide (0 ≤ t.num) && decide (t.num ≤ 1099511627776))
  else if t.knd = 4 then (2, 0, bare t false true true false && decide (0 ≤ t.num) && decide (t.num ≤ 16384))
  else if t.knd = 6 then (1, 0, bare t false false true false)
  else if t.knd = 7 then (1, 1, bare t false false true true && decide ((t.tail.length : Int) ≤ if (t.items.length : Int) < 1 then (t.items.length : Int) else 1) && t.tail.all fun x => decide (x.knd ≠ 7))
  else (1, 0, false)
mutual
def size : Term → Int
  | .mk k g l s n ks ts =>
    if (k.toNat : Int) = 1 then (if wr (.mk k g l s n ks ts) = true then 1 + l.length else 0) else
      let h := head (.mk k g l s n ks ts)
      let a := adds ks h.2.1 (h.1, h.2.2)
      let b := adds ts 0 a
      if b.2 = true then b.1 else 0
def adds : List Term → Int → Int × Bool → Int × Bool
  | [], _, a => a
  | k :: ks, each, a => if a.2 = true then adds ks each (a.1 + size k + each, decide (0 < size k) && decide (a.1 + size k + each ≤ 4096)) else a
end
end Go.Proofs.YtldmniappliepaaGreatDoor
namespace Go.Proofs.YtldmniappliepaaGreatDoor
open Go Go.Av
def cmpI (a b : Int) : Int := if a < b then -1 else if b < a then 1 else 0
def lex (a b : Int) : Int := if a = 0 then b else a
def cmpS : List UInt8 → List UInt8 → Int
  | [], [] => 0
  | [], _ :: _ => -1
  | _ :: _, [] => 1
  | a :: l, b :: r => lex (cmpI a.toNat b.toNat) (cmpS l r)
def cmpL : List UInt32 → List UInt32 → Int
  | [], [] => 0
  | [], _ :: _ => -1
  | _ :: _, [] => 1
  | a :: l, b :: r => lex (cmpI a.toNat b.toNat) (cmpL l r)
def cmpA (a b : List UInt32) : Int := lex (cmpI a.length b.length) (cmpL a.reverse b.reverse)
def sgn (t : Term) : Int := if t.neg = true then -1 else 1
def cmpW (a b : Term) : Int := if sgn a ≠ sgn b then sgn a else cmpA a.limbs b.limbs * sgn a
def G3 (x y z : Int) : Prop := (x = 0 → z = y) ∧ (y = 0 → z = x) ∧ (x = y → z = x)
def R3 (x : Int) : Prop := x = -1 ∨ x = 0 ∨ x = 1
theorem G3.lex {x y z x' y' z' : Int} (h : G3 x y z) (h' : G3 x' y' z') (hx : R3 x) (hy : R3 y) (hz : R3 z) : G3 (Proofs.YtldmniappliepaaGreatDoor.lex x x') (Proofs.YtldmniappliepaaGreatDoor.lex y y') (Proofs.YtldmniappliepaaGreatDoor.lex z z') := by
  obtain ⟨a, b, c⟩ := h
  obtain ⟨a', b', c'⟩ := h'
  unfold Proofs.YtldmniappliepaaGreatDoor.lex G3
  unfold R3 at hx hy hz
  rcases hx with rfl | rfl | rfl <;> rcases hy with rfl | rfl | rfl <;> simp_all
theorem R3.lex {x x' : Int} (h : R3 x) (h' : R3 x') : R3 (Proofs.YtldmniappliepaaGreatDoor.lex x x') := by
  unfold Proofs.YtldmniappliepaaGreatDoor.lex; split <;> assumption
mutual
def order : Term → Term → Int
  | .mk k g l s n ks ts, b =>
    if (k.toNat : Int) ≠ b.knd then cmpI k.toNat b.knd
    else if (k.toNat : Int) = 1 then cmpW (.mk k g l s n ks ts) b
    else if (k.toNat : Int) = 7 then lex (lex (rows ks b.items) (cmpI ks.length b.items.length)) (tl ts b.tail)
    else lex (lex (cmpS s b.text) (lex (cmpI n b.num) (cmpI ks.length b.items.length))) (rows ks b.items)
def tl : List Term → List Term → Int
  | [], [] => 0
  | [], b :: _ => cmpI 7 b.knd
  | a :: _, [] => cmpI a.knd 7
  | a :: _, b :: _ => order a b
def rows : List Term → List Term → Int
  | [], _ => 0
  | _, [] => 0
  | a :: l, b :: r => lex (order a b) (rows l r)
end
def right (t : Term) : Bool := decide (0 < size t)
structure Rt (t : Term) : Prop where
  items : ∀ x, x ∈ t.items → right x = true
  tail : ∀ x, x ∈ t.tail → right x = true
  kind : 1 ≤ t.knd ∧ t.knd ≤ 7
  int : t.knd = 1 → wr t = true
  rest : t.knd ≠ 1 → t.neg = false ∧ t.limbs = [] ∧ (t.knd ≠ 2 → t.text = []) ∧ (t.knd ≠ 7 → t.tail = []) ∧ (t.knd = 2 ∨ t.knd = 6 ∨ t.knd = 7 → t.num = 0) ∧ (t.knd = 2 ∨ t.knd = 3 ∨ t.knd = 5 → t.items = [])
  list : t.knd = 7 → t.tail.length ≤ 1 ∧ t.tail.length ≤ t.items.length ∧ ∀ x, x ∈ t.tail → x.knd ≠ 7
def listT (ks ts : List Term) : Term := .mk 7 false [] [] 0 ks ts
def tailOf (t : Term) : Term := match t.tail with | [] => listT [] [] | x :: _ => x
end Go.Proofs.YtldmniappliepaaGreatDoor
set_option maxRecDepth 20000
namespace Go.Proofs.YtldmniappliepaaGreatDoor
open Go Go.Av
variable (G : Nat → AV)
def val : List UInt32 → Nat
  | [] => 0
  | x :: l => x.toNat + 4294967296 * val l
end Go.Proofs.YtldmniappliepaaGreatDoor
namespace Go.Proofs.YtldmniappliepaaGreatDoor
open Go Go.Av
def digs (n : Nat) : List UInt8 := if h : n = 0 then [] else UInt8.ofNat (48 + n % 10) :: digs (n / 10)
termination_by n
decreasing_by omega
def decT (n : Nat) : List UInt8 := if n = 0 then [48] else (digs n).reverse
def wsaid (t : Term) : List UInt8 := (if t.neg = true then [45] else []) ++ decT (val t.limbs)
def itoa (n : Int) : List UInt8 := (if n < 0 then [45] else []) ++ decT n.natAbs
def words : List (List UInt8) := [[97, 102, 116, 101, 114], [97, 110, 100], [97, 110, 100, 97, 108, 115, 111], [98, 101, 103, 105, 110], [99, 97, 115, 101], [100, 105, 118], [101, 110, 100], [102, 117, 110], [105, 102], [110, 111, 116], [111, 102], [111, 114], [111, 114, 101, 108, 115, 101], [114, 101, 99, 101, 105, 118, 101], [114, 101, 109], [116, 114, 121], [99, 97, 116, 99, 104], [119, 104, 101, 110], [120, 111, 114]]
def innerC (c : UInt8) : Bool := decide (97 ≤ c.toNat) && decide (c.toNat ≤ 122) || decide (65 ≤ c.toNat) && decide (c.toNat ≤ 90) || decide (48 ≤ c.toNat) && decide (c.toNat ≤ 57) || decide (c.toNat = 95) || decide (c.toNat = 64)
def plainA (s : List UInt8) : Bool := match s with
  | [] => false
  | c :: _ => decide (97 ≤ c.toNat) && decide (c.toNat ≤ 122) && !words.contains s && s.all innerC
def hexD (n : Nat) : UInt8 := if n < 10 then UInt8.ofNat (48 + n) else UInt8.ofNat (87 + n)
def quoC (c : UInt8) : List UInt8 :=
  if c.toNat = 39 ∨ c.toNat = 92 then [92, c]
  else if c.toNat = 10 then [92, 110]
  else if c.toNat < 32 ∨ 126 < c.toNat then [92, 120, hexD (c.toNat / 16), hexD (c.toNat % 16)]
  else [c]
def quoted (s : List UInt8) : List UInt8 := 39 :: (s.flatMap quoC ++ [39])
def atomT (s : List UInt8) : List UInt8 := if plainA s = true then s else quoted s
mutual
def said : Term → List UInt8
  | .mk k g l s n ks ts =>
    if (k.toNat : Int) = 1 then wsaid (.mk k g l s n ks ts)
    else if (k.toNat : Int) = 2 then atomT s
    else if (k.toNat : Int) = 3 then [35, 82, 101, 102, 60] ++ itoa n ++ [62]
    else if (k.toNat : Int) = 4 then [35, 70, 117, 110, 60] ++ itoa n ++ [62]
    else if (k.toNat : Int) = 5 then [60] ++ itoa n ++ [62]
    else if (k.toNat : Int) = 6 then [123] ++ (saidI ks ++ saidT ts) ++ [125]
    else [91] ++ (saidI ks ++ saidT ts) ++ [93]
def saidI : List Term → List UInt8
  | [] => []
  | x :: l => said x ++ saidN l
def saidN : List Term → List UInt8
  | [] => []
  | x :: l => 44 :: (said x ++ saidN l)
def saidT : List Term → List UInt8
  | [] => []
  | x :: l => 124 :: (said x ++ saidT l)
end
def text (t : Term) : List UInt8 := if right t = true then said t else []
abbrev okC (c : UInt8) : Prop := 32 ≤ c.toNat ∧ c.toNat ≤ 126
def okS (s : List UInt8) : Prop := ∀ c, c ∈ s → okC c
theorem okS.append {a b : List UInt8} (h : okS a) (k : okS b) : okS (a ++ b) := fun c hc => (List.mem_append.1 hc).elim (h c) (k c)
theorem okS.cons {c : UInt8} {b : List UInt8} (h : okC c) (k : okS b) : okS (c :: b) := fun d hd => (List.mem_cons.1 hd).elim (fun e => e ▸ h) (k d)
theorem okS.nil : okS [] := fun c hc => by cases hc
def zeroT : Term := .mk 0 false [] [] 0 [] []
def cons0 (h t : Term) : Term := if t.knd = 7 then listT (h :: t.items) t.tail else listT [h] [t]
def cons (h t : Term) : Term := if right h = true ∧ right t = true ∧ right (cons0 h t) = true then cons0 h t else zeroT
def split (t : Term) : Option (Term × Term) := if right t = true ∧ t.knd = 7 then (match t.items with
  | [] => none
  | [x] => some (x, tailOf t)
  | x :: l => some (x, listT l t.tail)) else none
end Go.Proofs.YtldmniappliepaaGreatDoor
set_option maxRecDepth 20000
namespace Go.Proofs.YtldmniappliepaaGreatDoor
open Go Go.Av
def tbQuo := And.intro (And.intro (And.intro @tf3 @tf4) (And.intro @tf5 (And.intro @tf9 @tf37))) (And.intro (And.intro @tf33 @tf76) (And.intro @tf86 (And.intro @tf84 @tf80)))
variable (G : Nat → AV)
def idx (s : List UInt8) : Nat → List (List UInt8) → Int
  | _, [] => -1
  | k, w :: ws => if s = w then k else idx s (k + 1) ws
theorem idx_mem (s : List UInt8) : ∀ (ws : List (List UInt8)) (k : Nat), (0 ≤ idx s k ws) ↔ s ∈ ws
  | [], k => by simp [idx]
  | w :: ws, k => by
    simp only [idx]
    split
    · rename_i h; subst h; simp
    · rename_i h; rw [idx_mem s ws (k + 1)]; simp [h]
def texts (ws : List (List UInt8)) : AV := .sl .none (ws.map AV.str) []
theorem len_texts {P : Program} {t : TypeId} (l : List (List UInt8)) : ablt P .len #[t] [texts l] = if (el P t).isSome then some (.int .i64 l.length) else none := by
  simp [texts, l_sl]
theorem ix_texts {P : Program} {t : TypeId} {k : IntKind} (l : List (List UInt8)) (i : Nat) : aindexA P t (texts l) (.int k (i : Int)) = ixk ((el P t).bind (tk P)) ((l[i]?).map AV.str) := by
  simp [texts, aindexA_sl]
theorem index_pure (ws : List (List UInt8)) (s : List UInt8) (hl : ws.length ≤ 1000000) : Pure Tryz.prog G 78 [texts ws, .str s] (.int .i64 (idx s 0 ws)) := by
  intro σ
  refine Tri.of_awp mixed Tryz.func78 rfl (by kernel_rfl) (by kernel_rfl) (by simp [Tryz.ntmps78]) Tryz.results78 ?_
  repeat' (first | refine xs ?_ ?_ <;> intros | ((first | refine xh ?_ | refine xi ?_); intro bx hbx; (try simp only [fb] at hbx)) | refine xj ?_ | ((with_reducible refine And.intro ?_ ?_); omega) | refine bo_buildSlice (d' := ⟨⟩) ?_ | refine xk (by kernel_rfl) ?_ | refine xf ?_ (by repeat' first | exact lr _ | assumption | refine ls ?_ ?_ | refine lt ?_ ?_ | simp only [*]; done | simp only [fb, *, not_false_eq_true, and_self]; done | exact lf ‹_› (by simp only [*])) | refine finish_two ?_ (by repeat' first | exact lr _ | assumption | refine ls ?_ ?_ | refine lt ?_ ?_ | simp only [*]; done | simp only [fb, *, not_false_eq_true, and_self]; done | exact lf ‹_› (by simp only [*])) | simp -dsimp only [↓bp, bq, br, seval, tbQuo, len_texts, ix_texts, *])
  refine loop_keep mixed (fun n e => ∃ i : Nat, i ≤ (ws).length ∧ n = (ws).length - i ∧ e 8 = .int .i64 i ∧ idx s i (ws.drop i) = idx s 0 ws) (ws).length
      ⟨0, by omega, by omega, by simp -dsimp only [↓bp, bq, br, seval, tbQuo]; first | done | rfl, rfl⟩ ?_
  rintro n v ⟨i, hi, rfl, h8, htk⟩
  simp -dsimp only [↓bp, bq, br, seval, tbQuo] at h8
  simp -dsimp only [↓bp, bq, br, seval, tbQuo, h8]
  refine condW_dec (fun hlt => ?_) (fun hge => ?_)
  · obtain ⟨x, hx⟩ : ∃ x, ws[i]? = some x := ⟨_, List.getElem?_eq_getElem (by omega)⟩
    rw [drop_get _ _ _ hx] at htk
    simp only [idx] at htk
    clear hi hlt
    by_cases h0 : s = x
    · subst h0
      simp only [if_true] at htk
      rw [← htk]
      clear htk
      repeat' (first | refine xs ?_ ?_ <;> intros | ((first | refine xh ?_ | refine xi ?_); intro bx hbx; (try simp only [fb] at hbx)) | refine xj ?_ | ((with_reducible refine And.intro ?_ ?_); omega) | refine bo_buildSlice (d' := ⟨⟩) ?_ | refine xk (by kernel_rfl) ?_ | refine xf ?_ (by repeat' first | exact lr _ | assumption | refine ls ?_ ?_ | refine lt ?_ ?_ | simp only [*]; done | simp only [fb, *, not_false_eq_true, and_self]; done | exact lf ‹_› (by simp only [*])) | refine finish_two ?_ (by repeat' first | exact lr _ | assumption | refine ls ?_ ?_ | refine lt ?_ ?_ | simp only [*]; done | simp only [fb, *, not_false_eq_true, and_self]; done | exact lf ‹_› (by simp only [*])) | simp -dsimp only [↓bp, bq, br, seval, tbQuo, len_texts, ix_texts, *])
      all_goals rfl
    · rw [if_neg h0] at htk
      repeat' (first | refine xs ?_ ?_ <;> intros | ((first | refine xh ?_ | refine xi ?_); intro bx hbx; (try simp only [fb] at hbx)) | refine xj ?_ | ((with_reducible refine And.intro ?_ ?_); omega) | refine bo_buildSlice (d' := ⟨⟩) ?_ | refine xk (by kernel_rfl) ?_ | refine xf ?_ (by repeat' first | exact lr _ | assumption | refine ls ?_ ?_ | refine lt ?_ ?_ | simp only [*]; done | simp only [fb, *, not_false_eq_true, and_self]; done | exact lf ‹_› (by simp only [*])) | refine finish_two ?_ (by repeat' first | exact lr _ | assumption | refine ls ?_ ?_ | refine lt ?_ ?_ | simp only [*]; done | simp only [fb, *, not_false_eq_true, and_self]; done | exact lf ‹_› (by simp only [*])) | simp -dsimp only [↓bp, bq, br, seval, tbQuo, len_texts, ix_texts, *])
      all_goals (have hlt := (List.getElem?_eq_some_iff.1 hx).1)
      all_goals exact ⟨ws.length - (i + 1), by omega, i + 1, by omega, rfl, by rw [wrap_nat (by omega) (by omega)]; rfl, htk⟩
  · have : i = ws.length := by omega
    subst this
    rw [List.drop_length] at htk
    simp only [idx] at htk
    rw [← htk]
    clear hi hge htk
    repeat' (first | refine xs ?_ ?_ <;> intros | ((first | refine xh ?_ | refine xi ?_); intro bx hbx; (try simp only [fb] at hbx)) | refine xj ?_ | ((with_reducible refine And.intro ?_ ?_); omega) | refine bo_buildSlice (d' := ⟨⟩) ?_ | refine xk (by kernel_rfl) ?_ | refine xf ?_ (by repeat' first | exact lr _ | assumption | refine ls ?_ ?_ | refine lt ?_ ?_ | simp only [*]; done | simp only [fb, *, not_false_eq_true, and_self]; done | exact lf ‹_› (by simp only [*])) | refine finish_two ?_ (by repeat' first | exact lr _ | assumption | refine ls ?_ ?_ | refine lt ?_ ?_ | simp only [*]; done | simp only [fb, *, not_false_eq_true, and_self]; done | exact lf ‹_› (by simp only [*])) | simp -dsimp only [↓bp, bq, br, seval, tbQuo, len_texts, ix_texts, *])
    all_goals rfl
theorem contains_pure (ws : List (List UInt8)) (s : List UInt8) (hl : ws.length ≤ 1000000) : Pure Tryz.prog G 40 [texts ws, .str s] (.bool (ws.contains s)) := by
  have h := index_pure G ws s hl
  have hm := idx_mem s ws 0
  have e : ws.contains s = decide (0 ≤ idx s 0 ws) := by rw [Bool.eq_iff_iff, decide_eq_true_eq, hm]; simp
  rw [e]
  intro σ
  refine Tri.of_awp mixed Tryz.func40 rfl (by kernel_rfl) (by kernel_rfl) (by simp [Tryz.ntmps40]) Tryz.results40 ?_
  repeat' (first | refine xs ?_ ?_ <;> intros | ((first | refine xh ?_ | refine xi ?_); intro bx hbx; (try simp only [fb] at hbx)) | refine Pure.use (h) ?_ | refine Pure.head (h) ?_ | refine xj ?_ | ((with_reducible refine And.intro ?_ ?_); omega) | refine bo_buildSlice (d' := ⟨⟩) ?_ | refine xk (by kernel_rfl) ?_ | refine xf ?_ (by repeat' first | exact lr _ | assumption | refine ls ?_ ?_ | refine lt ?_ ?_ | simp only [*]; done | simp only [fb, *, not_false_eq_true, and_self]; done | exact lf ‹_› (by simp only [*])) | refine finish_two ?_ (by repeat' first | exact lr _ | assumption | refine ls ?_ ?_ | refine lt ?_ ?_ | simp only [*]; done | simp only [fb, *, not_false_eq_true, and_self]; done | exact lf ‹_› (by simp only [*])) | simp -dsimp only [↓bp, bq, br, seval, tbQuo, *])
  all_goals rfl
end Go.Proofs.YtldmniappliepaaGreatDoor
