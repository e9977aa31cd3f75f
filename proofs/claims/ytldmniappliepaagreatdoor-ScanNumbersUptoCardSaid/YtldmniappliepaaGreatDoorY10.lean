/- What the program's tables say of its types: each by the kernel. Written by a program of ours (facts.py). -/
import Derived.Test.YtldmniappliepaaGreatDoorY09
import Derived.Test.YtldmniappliepaaGreatDoorChecked
import Derived.KernelRfl
set_option maxRecDepth 100000
set_option linter.defProp false
namespace Go.Proofs.YtldmniappliepaaGreatDoor
open Go Go.Av
section
theorem tf3 : tk Tryz.prog 3 = some (false, 1) ∧ sk Tryz.prog 3 = .int .i64 ∧ (Tryz.prog.underlying 3).isSome = true ∧ el Tryz.prog 3 = none ∧ zc Tryz.prog 3 = some [.int .i64 0] ∧ by_ Tryz.prog 3 = some 8 := ⟨by kernel_rfl, by kernel_rfl, by kernel_rfl, by kernel_rfl, by kernel_rfl, by kernel_rfl⟩
theorem tf4 : tk Tryz.prog 4 = some (false, 1) ∧ sk Tryz.prog 4 = .bool ∧ (Tryz.prog.underlying 4).isSome = true ∧ el Tryz.prog 4 = none ∧ zc Tryz.prog 4 = some [.bool false] ∧ by_ Tryz.prog 4 = some 1 := ⟨by kernel_rfl, by kernel_rfl, by kernel_rfl, by kernel_rfl, by kernel_rfl, by kernel_rfl⟩
theorem tf5 : tk Tryz.prog 5 = some (false, 1) ∧ sk Tryz.prog 5 = .int .u8 ∧ (Tryz.prog.underlying 5).isSome = true ∧ el Tryz.prog 5 = none ∧ zc Tryz.prog 5 = some [.int .u8 0] ∧ by_ Tryz.prog 5 = some 1 := ⟨by kernel_rfl, by kernel_rfl, by kernel_rfl, by kernel_rfl, by kernel_rfl, by kernel_rfl⟩
theorem tf9 : tk Tryz.prog 9 = some (false, 1) ∧ sk Tryz.prog 9 = .str ∧ (Tryz.prog.underlying 9).isSome = true ∧ el Tryz.prog 9 = none ∧ zc Tryz.prog 9 = some [.str []] ∧ by_ Tryz.prog 9 = some 16 := ⟨by kernel_rfl, by kernel_rfl, by kernel_rfl, by kernel_rfl, by kernel_rfl, by kernel_rfl⟩
theorem tf23 : tk Tryz.prog 23 = some (false, 1) ∧ sk Tryz.prog 23 = .sl 43 ∧ (Tryz.prog.underlying 23).isSome = true ∧ el Tryz.prog 23 = some 43 ∧ zc Tryz.prog 23 = some [.nil] ∧ by_ Tryz.prog 23 = some 24 ∧ aelt Tryz.prog 23 = some (43, 3, 32) := ⟨by kernel_rfl, by kernel_rfl, by kernel_rfl, by kernel_rfl, by kernel_rfl, by kernel_rfl, by kernel_rfl⟩
theorem tf24 : tk Tryz.prog 24 = some (false, 1) ∧ sk Tryz.prog 24 = .int .i64 ∧ (Tryz.prog.underlying 24).isSome = true ∧ el Tryz.prog 24 = none ∧ zc Tryz.prog 24 = some [.int .i64 0] ∧ by_ Tryz.prog 24 = some 8 := ⟨by kernel_rfl, by kernel_rfl, by kernel_rfl, by kernel_rfl, by kernel_rfl, by kernel_rfl⟩
theorem tf26 : tk Tryz.prog 26 = some (true, 2) ∧ sk Tryz.prog 26 = .st ∧ (Tryz.prog.underlying 26).isSome = true ∧ el Tryz.prog 26 = none ∧ zc Tryz.prog 26 = some [.int .i64 0, .int .i64 0] ∧ by_ Tryz.prog 26 = some 16 ∧ places Tryz.prog 26 = some [(0, 1), (1, 1)] ∧ fld Tryz.prog 26 0 = some (0, false, 1) ∧ fld Tryz.prog 26 1 = some (1, false, 1) := ⟨by kernel_rfl, by kernel_rfl, by kernel_rfl, by kernel_rfl, by kernel_rfl, by kernel_rfl, by kernel_rfl, by kernel_rfl, by kernel_rfl⟩
theorem tf33 : tk Tryz.prog 33 = some (false, 1) ∧ sk Tryz.prog 33 = .sl 9 ∧ (Tryz.prog.underlying 33).isSome = true ∧ el Tryz.prog 33 = some 9 ∧ zc Tryz.prog 33 = some [.nil] ∧ by_ Tryz.prog 33 = some 24 ∧ aelt Tryz.prog 33 = some (9, 1, 16) := ⟨by kernel_rfl, by kernel_rfl, by kernel_rfl, by kernel_rfl, by kernel_rfl, by kernel_rfl, by kernel_rfl⟩
theorem tf37 : tk Tryz.prog 37 = some (false, 1) ∧ sk Tryz.prog 37 = .sl 5 ∧ (Tryz.prog.underlying 37).isSome = true ∧ el Tryz.prog 37 = some 5 ∧ zc Tryz.prog 37 = some [.nil] ∧ by_ Tryz.prog 37 = some 24 ∧ aelt Tryz.prog 37 = some (5, 1, 1) := ⟨by kernel_rfl, by kernel_rfl, by kernel_rfl, by kernel_rfl, by kernel_rfl, by kernel_rfl, by kernel_rfl⟩
theorem tf41 : tk Tryz.prog 41 = some (false, 1) ∧ sk Tryz.prog 41 = .int .u8 ∧ (Tryz.prog.underlying 41).isSome = true ∧ el Tryz.prog 41 = none ∧ zc Tryz.prog 41 = some [.int .u8 0] ∧ by_ Tryz.prog 41 = some 1 := ⟨by kernel_rfl, by kernel_rfl, by kernel_rfl, by kernel_rfl, by kernel_rfl, by kernel_rfl⟩
theorem tf43 : tk Tryz.prog 43 = some (true, 3) ∧ sk Tryz.prog 43 = .st ∧ (Tryz.prog.underlying 43).isSome = true ∧ el Tryz.prog 43 = none ∧ zc Tryz.prog 43 = some [.int .u8 0, .str [], .int .i64 0] ∧ by_ Tryz.prog 43 = some 32 ∧ places Tryz.prog 43 = some [(0, 1), (1, 1), (2, 1)] ∧ fld Tryz.prog 43 0 = some (0, false, 1) ∧ fld Tryz.prog 43 1 = some (1, false, 1) ∧ fld Tryz.prog 43 2 = some (2, false, 1) := ⟨by kernel_rfl, by kernel_rfl, by kernel_rfl, by kernel_rfl, by kernel_rfl, by kernel_rfl, by kernel_rfl, by kernel_rfl, by kernel_rfl, by kernel_rfl⟩
theorem tf59 : tk Tryz.prog 59 = some (false, 1) ∧ sk Tryz.prog 59 = .sl 149 ∧ (Tryz.prog.underlying 59).isSome = true ∧ el Tryz.prog 59 = some 149 ∧ zc Tryz.prog 59 = some [.nil] ∧ by_ Tryz.prog 59 = some 24 ∧ aelt Tryz.prog 59 = some (149, 1, 24) := ⟨by kernel_rfl, by kernel_rfl, by kernel_rfl, by kernel_rfl, by kernel_rfl, by kernel_rfl, by kernel_rfl⟩
theorem tf76 : tk Tryz.prog 76 = some (true, 19) ∧ sk Tryz.prog 76 = .arr 19 9 ∧ (Tryz.prog.underlying 76).isSome = true ∧ el Tryz.prog 76 = none ∧ zc Tryz.prog 76 = some [.str [], .str [], .str [], .str [], .str [], .str [], .str [], .str [], .str [], .str [], .str [], .str [], .str [], .str [], .str [], .str [], .str [], .str [], .str []] ∧ by_ Tryz.prog 76 = some 304 ∧ arrT Tryz.prog 76 = some (19, 1) ∧ arrX Tryz.prog 76 = some (19, false, 1) := ⟨by kernel_rfl, by kernel_rfl, by kernel_rfl, by kernel_rfl, by kernel_rfl, by kernel_rfl, by kernel_rfl, by kernel_rfl⟩
theorem tf80 : tk Tryz.prog 80 = some (false, 1) ∧ sk Tryz.prog 80 = .int .u64 ∧ (Tryz.prog.underlying 80).isSome = true ∧ el Tryz.prog 80 = none ∧ zc Tryz.prog 80 = some [.int .u64 0] ∧ by_ Tryz.prog 80 = some 8 := ⟨by kernel_rfl, by kernel_rfl, by kernel_rfl, by kernel_rfl, by kernel_rfl, by kernel_rfl⟩
theorem tf84 : tk Tryz.prog 84 = some (false, 1) ∧ sk Tryz.prog 84 = .ptr 86 ∧ (Tryz.prog.underlying 84).isSome = true ∧ el Tryz.prog 84 = none ∧ zc Tryz.prog 84 = some [.nilptr] ∧ by_ Tryz.prog 84 = some 8 := ⟨by kernel_rfl, by kernel_rfl, by kernel_rfl, by kernel_rfl, by kernel_rfl, by kernel_rfl⟩
theorem tf86 : tk Tryz.prog 86 = some (true, 2) ∧ sk Tryz.prog 86 = .st ∧ (Tryz.prog.underlying 86).isSome = true ∧ el Tryz.prog 86 = none ∧ zc Tryz.prog 86 = some [.nilptr, .nil] ∧ by_ Tryz.prog 86 = some 32 ∧ places Tryz.prog 86 = some [(0, 1), (1, 1)] ∧ fld Tryz.prog 86 0 = some (0, false, 1) ∧ fld Tryz.prog 86 1 = some (1, false, 1) := ⟨by kernel_rfl, by kernel_rfl, by kernel_rfl, by kernel_rfl, by kernel_rfl, by kernel_rfl, by kernel_rfl, by kernel_rfl, by kernel_rfl⟩
theorem tf98 : tk Tryz.prog 98 = some (true, 29) ∧ sk Tryz.prog 98 = .arr 29 9 ∧ (Tryz.prog.underlying 98).isSome = true ∧ el Tryz.prog 98 = none ∧ zc Tryz.prog 98 = some [.str [], .str [], .str [], .str [], .str [], .str [], .str [], .str [], .str [], .str [], .str [], .str [], .str [], .str [], .str [], .str [], .str [], .str [], .str [], .str [], .str [], .str [], .str [], .str [], .str [], .str [], .str [], .str [], .str []] ∧ by_ Tryz.prog 98 = some 464 ∧ arrT Tryz.prog 98 = some (29, 1) ∧ arrX Tryz.prog 98 = some (29, false, 1) := ⟨by kernel_rfl, by kernel_rfl, by kernel_rfl, by kernel_rfl, by kernel_rfl, by kernel_rfl, by kernel_rfl, by kernel_rfl⟩
theorem tf124 : tk Tryz.prog 124 = some (false, 1) ∧ sk Tryz.prog 124 = .int .u32 ∧ (Tryz.prog.underlying 124).isSome = true ∧ el Tryz.prog 124 = none ∧ zc Tryz.prog 124 = some [.int .u32 0] ∧ by_ Tryz.prog 124 = some 4 := ⟨by kernel_rfl, by kernel_rfl, by kernel_rfl, by kernel_rfl, by kernel_rfl, by kernel_rfl⟩
theorem tf129 : tk Tryz.prog 129 = some (false, 1) ∧ sk Tryz.prog 129 = .int .u64 ∧ (Tryz.prog.underlying 129).isSome = true ∧ el Tryz.prog 129 = none ∧ zc Tryz.prog 129 = some [.int .u64 0] ∧ by_ Tryz.prog 129 = some 8 := ⟨by kernel_rfl, by kernel_rfl, by kernel_rfl, by kernel_rfl, by kernel_rfl, by kernel_rfl⟩
theorem tf140 : tk Tryz.prog 140 = some (false, 1) ∧ sk Tryz.prog 140 = .sl 124 ∧ (Tryz.prog.underlying 140).isSome = true ∧ el Tryz.prog 140 = some 124 ∧ zc Tryz.prog 140 = some [.nil] ∧ by_ Tryz.prog 140 = some 24 ∧ aelt Tryz.prog 140 = some (124, 1, 4) := ⟨by kernel_rfl, by kernel_rfl, by kernel_rfl, by kernel_rfl, by kernel_rfl, by kernel_rfl, by kernel_rfl⟩
theorem mixed : Tryz.prog.follows .mixedOrders = true := by kernel_rfl
end
set_option linter.unusedVariables false
set_option linter.unusedSimpArgs false
section
inductive Term where
  | mk (kind : UInt8) (neg : Bool) (limbs : List UInt32) (text : List UInt8) (num : Int) (items tail : List Term)
instance : Inhabited Term := ⟨.mk 0 false [] [] 0 [] []⟩
def Term.kind : Term → UInt8 | .mk k _ _ _ _ _ _ => k
def Term.neg : Term → Bool | .mk _ g _ _ _ _ _ => g
def Term.limbs : Term → List UInt32 | .mk _ _ l _ _ _ _ => l
def Term.text : Term → List UInt8 | .mk _ _ _ s _ _ _ => s
def Term.num : Term → Int | .mk _ _ _ _ n _ _ => n
def Term.items : Term → List Term | .mk _ _ _ _ _ ks _ => ks
def Term.tail : Term → List Term | .mk _ _ _ _ _ _ ts => ts
def Term.knd (t : Term) : Int := t.kind.toNat
def limA (x : UInt32) : AV := .int .u32 x.toNat
def lims (l : List UInt32) : AV := .sl .none (l.map limA) []
def Term.enc : Term → AV
  | .mk k g l s n ks ts => .agg [.int .u8 k.toNat, .bool g, lims l, .str s, .int .i64 n, .sl .none (ks.map Term.enc) [], .sl .none (ts.map Term.enc) []]
theorem isv_lims (l : List UInt32) : isv (lims l) = true := rfl
theorem flat_lims (l : List UInt32) : flat (lims l) = [lims l] := rfl
theorem len_lims {P : Program} {t : TypeId} (l : List UInt32) : ablt P .len #[t] [lims l] = if (el P t).isSome then some (.int .i64 l.length) else none := by
  simp [lims, l_sl]
theorem ix_lims {P : Program} {t : TypeId} {k : IntKind} (l : List UInt32) (i : Nat) : aindexA P t (lims l) (.int k (i : Int)) = ixk ((el P t).bind (tk P)) ((l[i]?).map limA) := by
  simp [lims, aindexA_sl]
theorem ix_lims' {P : Program} {t : TypeId} {k : IntKind} (l : List UInt32) (i : Int) (h : 0 ≤ i) : aindexA P t (lims l) (.int k i) = ixk ((el P t).bind (tk P)) ((l[i.toNat]?).map limA) := by
  simp [lims, aindexA_sl, h]
theorem flat_limA (x : UInt32) : flat (limA x) = [limA x] := rfl
theorem Term.ind {P : Term → Prop} (h : ∀ t, (∀ k, k ∈ t.items → P k) → (∀ k, k ∈ t.tail → P k) → P t) : ∀ t, P t := by
  have key : ∀ n, ∀ t : Term, SizeOf.sizeOf t ≤ n → P t := by
    intro n
    induction n with
    | zero => intro t ht; cases t; simp at ht
    | succ n ih =>
      intro t ht
      cases t with
      | mk a b c d e ks ts =>
        refine h _ (fun k hk => ih k ?_) (fun k hk => ih k ?_)
        · have := List.sizeOf_lt_of_mem (show k ∈ ks from hk)
          simp at ht
          omega
        · have := List.sizeOf_lt_of_mem (show k ∈ ts from hk)
          simp at ht
          omega
  exact fun t => key _ t (Nat.le_refl _)
theorem wrap_nat {x : Int} (h0 : -9223372036854775808 ≤ x) (h1 : x ≤ 9223372036854775807) : IntKind.i64.wrap x = x := by
  rw [IntKind.wrap_i64]; omega
theorem take_succ_get {α : Type} (l : List α) (i : Nat) (x : α) (h : l[i]? = some x) : l.take (i + 1) = l.take i ++ [x] := by
  rw [List.take_add_one, h]; rfl
theorem drop_get {α : Type} (l : List α) (i : Nat) (x : α) (h : l[i]? = some x) : l.drop i = x :: l.drop (i + 1) := by
  obtain ⟨hi, rfl⟩ := List.getElem?_eq_some_iff.1 h
  exact List.drop_eq_getElem_cons hi
end
section
def tbLims := And.intro (And.intro (And.intro @tf3 (And.intro @tf4 @tf5)) (And.intro @tf124 (And.intro @tf9 @tf140))) (And.intro (And.intro @isv_lims (And.intro @flat_lims @len_lims)) (And.intro @ix_lims (And.intro @ix_lims' @flat_limA)))
variable (G : Nat → AV)
def markI (k i : Int) : Int := IntKind.i64.wrap (IntKind.i64.wrap (1000003 * IntKind.i64.wrap (k + 7)) + i)
theorem mark_pure (k i : Int) : Pure Tryz.prog G 84 [.int .i64 k, .int .i64 i] (.int .i64 (markI k i)) := by
  intro σ
  refine Tri.of_awp mixed Tryz.func84 rfl (by kernel_rfl) (by kernel_rfl) (by simp [Tryz.ntmps84]) Tryz.results84 ?_
  repeat' (first | refine xs ?_ ?_ <;> intros | ((first | refine xh ?_ | refine xi ?_); intro bx hbx; (try simp only [fb] at hbx)) | refine xj ?_ | refine cv_plain ?_ | ((with_reducible refine And.intro ?_ ?_); omega) | refine bo_buildSlice (d' := ⟨⟩) ?_ | refine xk (by kernel_rfl) ?_ | refine xf ?_ (by repeat' first | exact lr _ | assumption | refine ls ?_ ?_ | refine lt ?_ ?_ | simp only [*]; done | simp only [fb, *, not_false_eq_true, and_self]; done | exact lf ‹_› (by simp only [*])) | refine finish_two ?_ (by repeat' first | exact lr _ | assumption | refine ls ?_ ?_ | refine lt ?_ ?_ | simp only [*]; done | simp only [fb, *, not_false_eq_true, and_self]; done | exact lf ‹_› (by simp only [*])) | simp -dsimp only [↓bp, bq, br, seval, tbLims, *] | refine cv_any ?_)
  all_goals rfl
theorem take_next {α : Type} {l r : List α} {i : Nat} {x : α} (h : l.take i = r.take i) (hl : l[i]? = some x) (hr : r[i]? = some x) : l.take (i + 1) = r.take (i + 1) := by
  rw [take_succ_get _ _ _ hl, take_succ_get _ _ _ hr, h]
theorem take_all {α : Type} {l r : List α} (hl : l.length = r.length) (h : l.take l.length = r.take l.length) : l = r := by
  rw [List.take_length] at h
  rw [h, hl, List.take_length]
end
set_option maxRecDepth 20000
section
variable (G : Nat → AV)
mutual
def same : Term → Term → Bool
  | .mk k g l s n ks ts, u => decide ((k.toNat : Int) = u.knd) && (g == u.neg) && decide (l = u.limbs) && decide (s = u.text) && decide (n = u.num) && sames ks u.items && sames ts u.tail
def sames : List Term → List Term → Bool
  | [], [] => true
  | a :: l, b :: r => same a b && sames l r
  | _, _ => false
end
theorem same_eq (t u : Term) : same t u = (decide (t.knd = u.knd) && (t.neg == u.neg) && decide (t.limbs = u.limbs) && decide (t.text = u.text) && decide (t.num = u.num) && sames t.items u.items && sames t.tail u.tail) := by
  cases t; rw [same]; rfl
theorem sames_iff_of {l : List Term} (h : ∀ t, t ∈ l → ∀ u, same t u = true ↔ t = u) : ∀ r, sames l r = true ↔ l = r := by
  induction l with
  | nil => intro r; cases r <;> simp [sames]
  | cons a l ih =>
    intro r
    cases r with
    | nil => simp [sames]
    | cons b r => simp only [sames, Bool.and_eq_true, h a (by simp) b, ih (fun t ht => h t (by simp [ht])) r, List.cons.injEq]
theorem same_iff (t : Term) : ∀ u, same t u = true ↔ t = u := by
  refine Term.ind (P := fun t => ∀ u, same t u = true ↔ t = u) (fun t h1 h2 u => ?_) t
  rw [same_eq]
  simp only [Bool.and_eq_true, decide_eq_true_eq, beq_iff_eq, sames_iff_of h1, sames_iff_of h2]
  constructor
  · rintro ⟨⟨⟨⟨⟨⟨h, rfl2⟩, h3⟩, h4⟩, h5⟩, h6⟩, h7⟩
    cases t; cases u
    simp only [Term.knd, Term.kind, Term.neg, Term.limbs, Term.text, Term.num, Term.items, Term.tail] at *
    simp only [Term.mk.injEq]
    exact ⟨UInt8.toNat_inj.1 (by omega), rfl2, h3, h4, h5, h6, h7⟩
  · rintro rfl; simp
end
section
section rows
variable {α : Type}
def rowOf (enc : α → AV) (l : List α) : AV := .sl .none (l.map enc) []
theorem isv_rowOf (enc : α → AV) (l : List α) : isv (rowOf enc l) = true := rfl
theorem flat_rowOf (enc : α → AV) (l : List α) : flat (rowOf enc l) = [rowOf enc l] := rfl
theorem len_rowOf {P : Program} {t : TypeId} (enc : α → AV) (l : List α) : ablt P .len #[t] [rowOf enc l] = if (el P t).isSome then some (.int .i64 l.length) else none := by
  simp [rowOf, l_sl]
theorem ix_rowOf {P : Program} {t : TypeId} {k : IntKind} (enc : α → AV) (l : List α) (i : Nat) : aindexA P t (rowOf enc l) (.int k (i : Int)) = ixk ((el P t).bind (tk P)) ((l[i]?).map enc) := by
  simp [rowOf, aindexA_sl]
end rows
instance : DecidableEq Term := fun a b => decidable_of_iff _ (same_iff a b)
end
end Go.Proofs.YtldmniappliepaaGreatDoor
