/- Arithmetic, comparisons, conversions, indexes, pieces, lengths on abstract values. -/
import Derived.Test.YtjmdaeabllkgnaaGreatDoorY01
import Derived.ChangeKeysEq
import Derived.Laws.StructEq
set_option linter.unusedVariables false
set_option linter.unusedSimpArgs false
namespace Go.Av
open Go Go.RowKit
inductive SK where
 | bool | int (k : IntKind) | str | sl (e : TypeId) | ptr (e : TypeId) | fn | st | map (k e : TypeId) | arr (n : Nat) (e : TypeId) | oth
 deriving DecidableEq
def skOf : Option TypeDesc -> SK
 | some .bool => .bool
 | some (.int k) => .int k
 | some .string => .str
 | some (.slice e) => .sl e
 | some (.pointer e) => .ptr e
 | some (.func ..) => .fn
 | some (.struct _) => .st
 | some (.map k e) => .map k e
 | some (.array n e) => .arr n e
 | _ => .oth
def sk (P : Program) (t : TypeId) : SK := skOf (P.underlying t)
section sk
variable {P : Program} {t : TypeId}
theorem sk_bool (h : sk P t = .bool) : P.underlying t = some .bool := by
 unfold sk skOf at h; split at h <;> first | assumption | cases h
theorem sk_int {k : IntKind} (h : sk P t = .int k) : P.underlying t = some (.int k) := by
 unfold sk skOf at h; split at h <;> first | (cases h; assumption) | cases h
theorem sk_str (h : sk P t = .str) : P.underlying t = some .string := by
 unfold sk skOf at h; split at h <;> first | assumption | cases h
theorem sk_ptr {e : TypeId} (h : sk P t = .ptr e) : P.underlying t = some (.pointer e) := by
 unfold sk skOf at h; split at h <;> first | (cases h; assumption) | cases h
theorem sk_fn (h : sk P t = .fn) : ∃ a b c, P.underlying t = some (.func a b c) := by
 unfold sk skOf at h; split at h <;> first | exact ⟨_, _, _, by assumption⟩ | cases h
end sk
def abinI (op : BinOp) (k : IntKind) (a : Int) (k' : IntKind) (b : Int) : Option AV :=
 match op with
 | .shl => if b < 0 then none else some (.int k (k.wrap (a * 2 ^ (min b.toNat k.bits))))
 | .shr => if b < 0 then none else some (.int k (a.fdiv (2 ^ (min b.toNat k.bits))))
 | op => if k ≠ k' then none else
  match op with
  | .add => some (.int k (k.wrap (a + b)))
  | .sub => some (.int k (k.wrap (a - b)))
  | .mul => some (.int k (k.wrap (a * b)))
  | .quo => if b = 0 then none else some (.int k (k.wrap (a.tdiv b)))
  | .rem => if b = 0 then none else some (.int k (a.tmod b))
  | .and => some (.int k (k.wrap ((BitVec.ofInt k.bits a &&& BitVec.ofInt k.bits b).toNat)))
  | .or => some (.int k (k.wrap ((BitVec.ofInt k.bits a ||| BitVec.ofInt k.bits b).toNat)))
  | .xor => some (.int k (k.wrap ((BitVec.ofInt k.bits a ^^^ BitVec.ofInt k.bits b).toNat)))
  | .andNot => some (.int k (k.wrap ((BitVec.ofInt k.bits a &&& ~~~BitVec.ofInt k.bits b).toNat)))
  | .eql => some (.bool (a == b))
  | .neq => some (.bool (a != b))
  | .lss => some (.bool (decide (a < b)))
  | .leq => some (.bool (decide (a <= b)))
  | .gtr => some (.bool (decide (b < a)))
  | .geq => some (.bool (decide (b <= a)))
  | _ => none
def abinS (op : BinOp) (a b : List UInt8) : Option AV :=
 match op with
 | .add => if a.length + b.length <= maxLen then some (.str (a ++ b)) else none
 | .eql => some (.bool (a == b))
 | .neq => some (.bool (!(a == b)))
 | .lss => some (.bool (Op.bytesLess a b))
 | .leq => some (.bool (Op.bytesLess a b || a == b))
 | .gtr => some (.bool (!(Op.bytesLess a b || a == b)))
 | .geq => some (.bool (!(Op.bytesLess a b)))
 | _ => none
def aeq (op : BinOp) (r : Bool) : Option AV :=
 match op with
 | .eql => some (.bool r)
 | .neq => some (.bool (!r))
 | _ => none
def isNil : Gh -> List AV -> Bool
 | .none, [] => true
 | _, _ => false
def fldK (P : Program) : List Field -> Nat -> Option (List SK)
 | [], _ => some []
 | f :: fs, n => if f.name ≠ "_" /\ f.offset = n /\ P.plainKey f.type = true then (fldK P fs (n + 1)).map (sk P f.type :: ·) else none
def eqK (P : Program) (t : TypeId) : Option (List SK) :=
 match P.underlying t with
 | some (.struct fs) => if P.stoodInHeld t = false /\ P.eqGuardType P.depth t = false then fldK P fs.toList 0 else none
 | _ => none
def fldEq : List SK -> List AV -> List AV -> Option Bool
 | [], [], [] => some true
 | .str :: ks, .str a :: xs, .str b :: ys => (fldEq ks xs ys).map fun r => decide (a = b) && r
 | .int _ :: ks, .int k a :: xs, .int k' b :: ys => if k = k' then (fldEq ks xs ys).map fun r => decide (a = b) && r else none
 | .bool :: ks, .bool a :: xs, .bool b :: ys => (fldEq ks xs ys).map fun r => decide (a = b) && r
 | _, _, _ => none
def abin (P : Program) (op : BinOp) (t : TypeId) (x y : AV) : Option AV :=
 match x, y with
 | .int k a, .int k' b => abinI op k a k' b
 | .str a, .str b => abinS op a b
 | .bool a, .bool b => if sk P t = .bool then aeq op (a == b) else none
 | .nil, .nil => if (el P t).isSome then aeq op true else none
 | .nil, .sl g xs _ => if (el P t).isSome = true /\ isNil g xs = false then aeq op false else none
 | .sl g xs _, .nil => if (el P t).isSome = true /\ isNil g xs = false then aeq op false else none
 | .nil, .bs .. => if (el P t).isSome = true then aeq op false else none
 | .bs .., .nil => if (el P t).isSome = true then aeq op false else none
 | .raw (.slice (some _) _ _), .nil => if (el P t).isSome = true then aeq op false else none
 | .fn .., .nilfn => if sk P t = .fn then aeq op false else none
 | .nilfn, .fn .. => if sk P t = .fn then aeq op false else none
 | .nilfn, .nilfn => if sk P t = .fn then aeq op true else none
 | .nilptr, .nilptr => (match sk P t with | .ptr _ => aeq op true | _ => none)
 | .nilptr, .ptr .. => (match sk P t with | .ptr _ => aeq op false | _ => none)
 | .nilptr, .rp .. => (match sk P t with | .ptr _ => aeq op false | _ => none)
 | .ptr .., .nilptr => (match sk P t with | .ptr _ => aeq op false | _ => none)
 | .rp .., .nilptr => (match sk P t with | .ptr _ => aeq op false | _ => none)
 | .agg xs, .agg ys => (eqK P t).bind fun ks => (fldEq ks xs ys).bind (aeq op)
 | _, _ => none
theorem toList_mk (s : List UInt8) : (ByteArray.mk (Array.mk s)).toList = s := by rw [ByteArray.toList_eq]
theorem eq_bool {P : Program} {w : World} {t : TypeId} (h : P.underlying t = some .bool) (a b : Bool) : (Op.equal t (.bool a) (.bool b)).run P w = .ok (a == b) w := by
 have key : ∀ d, (Op.equalIn (d + 1) t (.bool a) (.bool b)).run P w = .ok (a == b) w := fun d => by simp [Op.equalIn, run_underlying h]
 exact key 9999
theorem eq_nn {P : Program} {w : World} {t e : TypeId} (h : P.underlying t = some (.slice e))  : (Op.equal t (.slice none 0 0) (.slice none 0 0)).run P w = .ok true w := by
 have key : ∀ d, (Op.equalIn (d + 1) t (.slice none 0 0) (.slice none 0 0)).run P w = .ok true w := fun d => by simp [Op.equalIn, run_underlying h]
 exact key 9999
theorem eq_ns {P : Program} {w : World} {t e : TypeId} (h : P.underlying t = some (.slice e)) (a : Addr) (n c : Nat) : (Op.equal t (.slice none 0 0) (.slice (some a) n c)).run P w = .ok false w := by
 have key : ∀ d, (Op.equalIn (d + 1) t (.slice none 0 0) (.slice (some a) n c)).run P w = .ok false w := fun d => by simp [Op.equalIn, run_underlying h]
 exact key 9999
theorem eq_sn {P : Program} {w : World} {t e : TypeId} (h : P.underlying t = some (.slice e)) (a : Addr) (n c : Nat) : (Op.equal t (.slice (some a) n c) (.slice none 0 0)).run P w = .ok false w := by
 have key : ∀ d, (Op.equalIn (d + 1) t (.slice (some a) n c) (.slice none 0 0)).run P w = .ok false w := fun d => by simp [Op.equalIn, run_underlying h]
 exact key 9999
theorem eq_fn {P : Program} {w : World} {t : TypeId} (h : sk P t = .fn) (f : Fn) (a b : Array Value) : (Op.equal t (.func f a b) .nilFunc).run P w = .ok false w := by
 obtain ⟨x, y, z, h⟩ := sk_fn h
 have key : ∀ d, (Op.equalIn (d + 1) t (.func f a b) .nilFunc).run P w = .ok false w := fun d => by simp [Op.equalIn, run_underlying h]
 exact key 9999
theorem eq_nf {P : Program} {w : World} {t : TypeId} (h : sk P t = .fn) (f : Fn) (a b : Array Value) : (Op.equal t .nilFunc (.func f a b)).run P w = .ok false w := by
 obtain ⟨x, y, z, h⟩ := sk_fn h
 have key : ∀ d, (Op.equalIn (d + 1) t .nilFunc (.func f a b)).run P w = .ok false w := fun d => by simp [Op.equalIn, run_underlying h]
 exact key 9999
theorem eq_ff {P : Program} {w : World} {t : TypeId} (h : sk P t = .fn)  : (Op.equal t .nilFunc .nilFunc).run P w = .ok true w := by
 obtain ⟨x, y, z, h⟩ := sk_fn h
 have key : ∀ d, (Op.equalIn (d + 1) t .nilFunc .nilFunc).run P w = .ok true w := fun d => by simp [Op.equalIn, run_underlying h]
 exact key 9999
theorem eq_p0 {P : Program} {w : World} {t e : TypeId} (h : P.underlying t = some (.pointer e)) (b : Option Addr) : (Op.equal t (.pointer none) (.pointer b)).run P w = .ok b.isNone w := by
 have key : ∀ d, (Op.equalIn (d + 1) t (.pointer none) (.pointer b)).run P w = .ok b.isNone w := fun d => by simp [Op.equalIn, run_underlying h]
 exact key 9999
theorem eq_p1 {P : Program} {w : World} {t e : TypeId} (h : P.underlying t = some (.pointer e)) (a : Addr) : (Op.equal t (.pointer (some a)) (.pointer none)).run P w = .ok false w := by
 have key : ∀ d, (Op.equalIn (d + 1) t (.pointer (some a)) (.pointer none)).run P w = .ok false w := fun d => by simp [Op.equalIn, run_underlying h]
 exact key 9999
theorem sk_leaf {P : Program} {t : TypeId} (h : P.plainKey t = true) : (sk P t = .bool /\ P.underlying t = some .bool) \/ (∃ k, sk P t = .int k /\ P.underlying t = some (.int k)) \/ (sk P t = .str /\ P.underlying t = some .string) := by
 unfold Program.plainKey at h
 unfold sk skOf
 cases hu : P.underlying t with
 | none => rw [hu] at h; cases h
 | some d => rw [hu] at h; cases d <;> first | exact .inl ⟨rfl, rfl⟩ | exact .inr (.inl ⟨_, rfl, rfl⟩) | exact .inr (.inr ⟨rfl, rfl⟩) | (cases h; done)
theorem eq_flds {P : Program} {K : Ctx} {w : World} {vs us : Array Value} : ∀ (fs : List Field) (n : Nat) (ks : List SK) (xs ys : List AV) (b : Bool), fldK P fs n = some ks -> fldEq ks xs ys = some b ->
  (vs.size = n + xs.length) -> (us.size = n + ys.length) -> (∀ j (h : j < xs.length), VR K xs[j] (vs.getD (n + j) undef)) -> (∀ j (h : j < ys.length), VR K ys[j] (us.getD (n + j) undef)) ->
  (Op.eqFields 9999 vs us fs).run P w = .ok b w
 | [], n, ks, xs, ys, b, hk, he, hvs, hus, hv, hu => by
  simp only [fldK, Option.some.injEq] at hk
  subst hk
  unfold fldEq at he
  split at he <;> first | (simp at he; done) | skip
  all_goals first
   | (simp only [Option.some.injEq] at he; subst he; simp [Op.eqFields]; done)
   | (cases he; done)
   | simp_all
 | f :: fs, n, ks, xs, ys, b, hk, he, hvs, hus, hv, hu => by
  simp only [fldK] at hk
  split at hk
  case isFalse => cases hk
  rename_i hc
  obtain ⟨c1, c2, c3⟩ := hc
  obtain ⟨ks', hk', rfl⟩ := Option.map_eq_some_iff.1 hk
  have step : ∀ (a c : AV) (xs' ys' : List AV), xs = a :: xs' -> ys = c :: ys' -> ∃ va vc, vs[n]? = some va /\ us[n]? = some vc /\ VR K a va /\ VR K c vc /\
    ∀ b', fldEq ks' xs' ys' = some b' -> (Op.eqFields 9999 vs us fs).run P w = .ok b' w := by
   intro a c xs' ys' ex ey
   subst ex ey
   simp only [List.length_cons] at hvs hus
   have h1 := hv 0 (by simp)
   have h2 := hu 0 (by simp)
   simp only [List.getElem_cons_zero, Nat.add_zero] at h1 h2
   refine ⟨vs.getD n undef, us.getD n undef, ?_, ?_, h1, h2, fun b' hb' => ?_⟩
   ·rw [Array.getD_eq_getD_getElem?, Array.getElem?_eq_getElem (by omega)]; rfl
   ·rw [Array.getD_eq_getD_getElem?, Array.getElem?_eq_getElem (by omega)]; rfl
   ·refine eq_flds (K := K) fs (n + 1) ks' xs' ys' b' hk' hb' (by omega) (by omega) (fun j hj => ?_) (fun j hj => ?_)
    ·have := hv (j + 1) (by simpa using hj)
     rw [show n + 1 + j = n + (j + 1) by omega]
     simpa using this
    ·have := hu (j + 1) (by simpa using hj)
     rw [show n + 1 + j = n + (j + 1) by omega]
     simpa using this
  have run : ∀ (va vc : Value) (r : Bool), vs[n]? = some va -> us[n]? = some vc -> (Op.equalIn 9999 f.type va vc).run P w = .ok r w -> ∀ b', (Op.eqFields 9999 vs us fs).run P w = .ok b' w -> (Op.eqFields 9999 vs us (f :: fs)).run P w = .ok (r && b') w := by
   intro va vc r h1 h2 h3 b' h4
   have p1 : (part f.type vs f.offset).run P w = .ok va w := run_part_plain w c3 (by rw [c2]; exact h1)
   have p2 : (part f.type us f.offset).run P w = .ok vc w := run_part_plain w c3 (by rw [c2]; exact h2)
   simp only [Op.eqFields, c1, ne_eq, not_false_eq_true, if_true, Sem.run_bind, p1, p2, h3, Result.andThen_ok]
   cases r
   ·simp
   ·simpa using h4
  unfold fldEq at he
  rcases sk_leaf c3 with ⟨e, hu2⟩ | ⟨k, e, hu2⟩ | ⟨e, hu2⟩
  all_goals
   rw [e] at he
   split at he <;> first | (cases he; done) | skip
  all_goals first
   | (rename_i heq; cases heq; done)
   | skip
  ·rename_i ks0 a xs' c ys' heq
   injection heq with e1 e2; subst e2
   obtain ⟨b', hb', rfl⟩ := Option.map_eq_some_iff.1 he
   obtain ⟨va, vc, g1, g2, g3, g4, g5⟩ := step _ _ _ _ rfl rfl
   rw [VR.bool_iff] at g3 g4; subst g3 g4
   have := run _ _ (a == c) g1 g2 (run_equalIn_bool w 9998 f.type a c hu2) b' (g5 b' hb')
   rw [this]; cases a <;> cases c <;> rfl
  ·rename_i ks0 k0 a xs' k1 c ys' heq
   injection heq with e1 e2; subst e2
   split at he
   case isFalse => cases he
   rename_i hkk; subst hkk
   obtain ⟨b', hb', rfl⟩ := Option.map_eq_some_iff.1 he
   obtain ⟨va, vc, g1, g2, g3, g4, g5⟩ := step _ _ _ _ rfl rfl
   rw [VR.int_iff] at g3 g4; subst g3 g4
   have := run _ _ (a == c) g1 g2 (run_equalIn_int w 9998 f.type _ _ a c hu2) b' (g5 b' hb')
   rw [this, show (a == c) = decide (a = c) from rfl]
  ·rename_i ks0 a xs' c ys' heq
   injection heq with e1 e2; subst e2
   obtain ⟨b', hb', rfl⟩ := Option.map_eq_some_iff.1 he
   obtain ⟨va, vc, g1, g2, g3, g4, g5⟩ := step _ _ _ _ rfl rfl
   rw [VR.str_iff] at g3 g4; subst g3 g4
   have := run _ _ _ g1 g2 (run_equalIn_string w 9998 f.type _ _ hu2) b' (g5 b' hb')
   rw [this, toList_mk, toList_mk]; first | rfl | (congr 2; rw [Bool.eq_iff_iff]; simp)
theorem eq_agg {P : Program} {K : Ctx} {w : World} {t : TypeId} {xs ys : List AV} {vs us : Array Value} {ks : List SK} {b : Bool} (hk : eqK P t = some ks) (he : fldEq ks xs ys = some b) (hv : VR K (.agg xs) (.agg vs)) (hu : VR K (.agg ys) (.agg us)) :
  (Op.equal t (.agg vs) (.agg us)).run P w = .ok b w /\ P.eqGuardType P.depth t = false := by
 unfold eqK at hk
 split at hk
 case h_2 => cases hk
 rename_i fs hf
 split at hk
 case isFalse => cases hk
 rename_i hc
 have hfo : P.fieldsOf t = fs := by unfold Program.fieldsOf; rw [hf]
 refine ⟨?_, hc.2⟩
 have key : (Op.equalIn (9999 + 1) t (.agg vs) (.agg us)).run P w = .ok b w := by
  rw [run_equalIn_struct w 9999 t vs us (by rw [hfo]; exact hf) hc.1, hfo]
  cases hv with
  | agg _ _ hl h1 hv =>
   cases hu with
   | agg _ _ hl2 h2 hu =>
    exact eq_flds (K := K) fs.toList 0 ks xs ys b hk he (by omega) (by omega) (fun j hj => by rw [Nat.zero_add]; exact hv j hj) (fun j hj => by rw [Nat.zero_add]; exact hu j hj)
 exact key
theorem aeq_sound {P : Program} {K : Ctx} {w : World} {op : BinOp} {t : TypeId} {v u : Value} {b : Bool} {r : AV} (h : aeq op b = some r) (ox oy : Operand)
  (heq : (Op.equal t v u).run P w = .ok b w)
  (hg : (eqGuard op t ox oy v u).run P w = .ok () w)
  (h1 : binOp .eql t v u = (do pure (.bool (<- Op.equal t v u)))) (h2 : binOp .neq t v u = (do pure (.bool (!(<- Op.equal t v u))))) :
  ∃ z, (do eqGuard op t ox oy v u; binOp op t v u : Sem Value).run P w = .ok z w /\ VR K r z := by
 simp only [Sem.run_bind, hg]
 unfold aeq at h
 cases op <;> simp only [Option.some.injEq] at h <;> first | cases h | skip
 ·exact ⟨.bool b, by rw [h1]; simp [Sem.run_bind, heq], .bool b⟩
 ·exact ⟨.bool (!b), by rw [h2]; simp [Sem.run_bind, heq], .bool (!b)⟩
theorem abin_sound {P : Program} {K : Ctx} {w : World} {op : BinOp} {t : TypeId} {x y r : AV} (h : abin P op t x y = some r) {v u : Value} (hv : VR K x v) (hu : VR K y u) (ox oy : Operand) :
  ∃ z, (do eqGuard op t ox oy v u; binOp op t v u : Sem Value).run P w = .ok z w /\ VR K r z := by
 unfold abin at h
 split at h
 ·-- ints
  rename_i k a k' b
  rw [VR.int_iff] at hv hu; subst hv hu
  have hg : (eqGuard op t ox oy (.int k a) (.int k' b)).run P w = .ok () w := by cases op <;> rfl
  simp only [Sem.run_bind, hg]
  unfold abinI at h
  cases op
  case shl =>
   simp only at h
   split at h
   ·cases h
   ·rename_i hb
    simp only [Option.some.injEq] at h; subst h
    exact ⟨_, by simp [binOp, Op.shift, hb], .int _ _⟩
  case shr =>
   simp only at h
   split at h
   ·cases h
   ·rename_i hb
    simp only [Option.some.injEq] at h; subst h
    exact ⟨_, by simp [binOp, Op.shift, hb], .int _ _⟩
  all_goals
   simp only at h
   split at h
   ·cases h
   rename_i hk
   simp only [ne_eq, Decidable.not_not] at hk
   subst hk
   first
   | (split at h
      ·cases h
      ·rename_i hb
       simp only [Option.some.injEq] at h; subst h
       exact ⟨_, by simp [binOp, Op.intDiv, hb], .int _ _⟩)
   | (simp only [Option.some.injEq] at h; subst h
      first
      | (refine ⟨_, ?_, .int _ _⟩; simp only [binOp, ne_eq, not_true_eq_false, if_false]; rfl)
      | (refine ⟨_, ?_, .bool _⟩; simp only [binOp, ne_eq, not_true_eq_false, if_false]; rfl))
   | cases h
 ·-- strings
  rename_i a b
  rw [VR.str_iff] at hv hu; subst hv hu
  have hg : (eqGuard op t ox oy (.string ⟨⟨a⟩⟩) (.string ⟨⟨b⟩⟩)).run P w = .ok () w := by cases op <;> rfl
  simp only [Sem.run_bind, hg]
  unfold abinS at h
  cases op <;> simp only [Option.some.injEq] at h <;> first | cases h | skip
  case add =>
   split at h
   ·rename_i hl
    simp only [Option.some.injEq] at h; subst h
    have hmax : ¬ (((a.length + b.length : Nat) : Int) > IntKind.i64.max) := by
     have : IntKind.i64.max = 9223372036854775807 := by decide
     unfold maxLen at hl; omega
    have hsz : ∀ l : List UInt8, (ByteArray.mk (Array.mk l)).size = l.length := fun l => rfl
    refine ⟨.string (⟨⟨a⟩⟩ ++ ⟨⟨b⟩⟩), by simp only [binOp, Op.stringOp, hsz]; rw [if_neg hmax]; rfl, ?_⟩
    have : (ByteArray.mk (Array.mk a) ++ ByteArray.mk (Array.mk b)) = ByteArray.mk (Array.mk (a ++ b)) := by
     apply ByteArray.ext
     rw [ByteArray.data_append]
     simp
    rw [this]; exact .str _
   ·cases h
  all_goals exact ⟨_, by simp [binOp, Op.stringOp, toList_mk], .bool _⟩
 ·rename_i a b
  rw [VR.bool_iff] at hv hu; subst hv hu
  split at h
  ·rename_i hs
   exact aeq_sound h ox oy (eq_bool (sk_bool hs) a b) (by cases op <;> rfl) rfl rfl
  ·cases h
 ·rw [VR.nil_iff] at hv hu; subst hv hu
  split at h
  ·rename_i hs
   obtain ⟨e, he⟩ := Option.isSome_iff_exists.1 hs
   exact aeq_sound h ox oy (eq_nn (run_el he)) (by cases op <;> rfl) rfl rfl
  ·cases h
 ·rw [VR.nil_iff] at hv; subst hv
  split at h
  ·rename_i hs
   obtain ⟨hs, hnn⟩ := hs
   obtain ⟨e, he⟩ := Option.isSome_iff_exists.1 hs
   cases hu
   case sl0 => cases hnn
   exact aeq_sound h ox oy (eq_ns (run_el he) _ _ _) (by cases op <;> rfl) rfl rfl
  ·cases h
 ·rw [VR.nil_iff] at hu; subst hu
  split at h
  ·rename_i hs
   obtain ⟨hs, hnn⟩ := hs
   obtain ⟨e, he⟩ := Option.isSome_iff_exists.1 hs
   cases hv
   case sl0 => cases hnn
   exact aeq_sound h ox oy (eq_sn (run_el he) _ _ _) (by cases op <;> rfl) rfl rfl
  ·cases h
 ·rw [VR.nil_iff] at hv; subst hv
  split at h
  ·rename_i hs
   obtain ⟨e, he⟩ := Option.isSome_iff_exists.1 hs
   cases hu
   exact aeq_sound h ox oy (eq_ns (run_el he) _ _ _) (by cases op <;> rfl) rfl rfl
  ·cases h
 ·rw [VR.nil_iff] at hu; subst hu
  split at h
  ·rename_i hs
   obtain ⟨e, he⟩ := Option.isSome_iff_exists.1 hs
   cases hv
   exact aeq_sound h ox oy (eq_sn (run_el he) _ _ _) (by cases op <;> rfl) rfl rfl
  ·cases h
 ·rw [VR.nil_iff] at hu; subst hu
  split at h
  ·rename_i hs
   obtain ⟨e, he⟩ := Option.isSome_iff_exists.1 hs
   cases hv
   exact aeq_sound h ox oy (eq_sn (run_el he) _ _ _) (by cases op <;> rfl) rfl rfl
  ·cases h
 ·rw [VR.nilfn_iff] at hu; subst hu
  split at h
  ·rename_i hs; cases hv
   exact aeq_sound h ox oy (eq_fn hs _ _ _) (by cases op <;> rfl) rfl rfl
  ·cases h
 ·rw [VR.nilfn_iff] at hv; subst hv
  split at h
  ·rename_i hs; cases hu
   exact aeq_sound h ox oy (eq_nf hs _ _ _) (by cases op <;> rfl) rfl rfl
  ·cases h
 ·rw [VR.nilfn_iff] at hv hu; subst hv hu
  split at h
  ·rename_i hs
   exact aeq_sound h ox oy (eq_ff hs) (by cases op <;> rfl) rfl rfl
  ·cases h
 ·rw [VR.nilptr_iff] at hv hu; subst hv hu
  split at h
  ·rename_i e hs
   exact aeq_sound h ox oy (eq_p0 (sk_ptr hs) _) (by cases op <;> rfl) rfl rfl
  ·cases h
 ·rw [VR.nilptr_iff] at hv; subst hv
  split at h
  ·rename_i e hs; cases hu
   exact aeq_sound h ox oy (eq_p0 (sk_ptr hs) _) (by cases op <;> rfl) rfl rfl
  ·cases h
 ·rw [VR.nilptr_iff] at hv; subst hv
  split at h
  ·rename_i e hs; cases hu
   exact aeq_sound h ox oy (eq_p0 (sk_ptr hs) _) (by cases op <;> rfl) rfl rfl
  ·cases h
 ·rw [VR.nilptr_iff] at hu; subst hu
  split at h
  ·rename_i e hs; cases hv
   exact aeq_sound h ox oy (eq_p1 (sk_ptr hs) _) (by cases op <;> rfl) rfl rfl
  ·cases h
 ·rw [VR.nilptr_iff] at hu; subst hu
  split at h
  ·rename_i e hs; cases hv
   exact aeq_sound h ox oy (eq_p1 (sk_ptr hs) _) (by cases op <;> rfl) rfl rfl
  ·cases h
 ·obtain ⟨ks, hk, h⟩ := Option.bind_eq_some_iff.1 h
  obtain ⟨b, hb, h⟩ := Option.bind_eq_some_iff.1 h
  cases hv with
  | agg _ vs hl h1 hv' =>
   cases hu with
   | agg _ us hl2 h2 hu' =>
    have he := eq_agg (w := w) hk hb (VR.agg_of _ vs hl h1 hv') (VR.agg_of _ us hl2 h2 hu')
    exact aeq_sound h ox oy he.1 (run_eqGuard_agg w op t ox oy _ _ he.2) rfl rfl
 ·cases h
def ifc (P : Program) (t : TypeId) : Bool := match P.underlying t with | some (.interface _) => true | _ => false
theorem ifc_spec {P : Program} {t : TypeId} (h : ifc P t = true) : ∃ m, P.underlying t = some (.interface m) := by
 unfold ifc at h
 split at h
 ·exact ⟨_, by assumption⟩
 ·cases h
def abinN (P : Program) (op : BinOp) (t : TypeId) : AV -> Option AV
 | .raw .nilIface => if ifc P t then aeq op true else none
 | .raw (.iface _ _) => if ifc P t then aeq op false else none
 | _ => none
def binK (P : Program) (op : BinOp) (t : TypeId) (oy : Operand) (x y : AV) : Option AV :=
 match oy with
 | .const .nilIface => abinN P op t x
 | _ => abin P op t x y
theorem eq_in {P : Program} {w : World} {t : TypeId} (h : ifc P t = true) : (Op.equal t .nilIface .nilIface).run P w = .ok true w := by
 obtain ⟨m, h⟩ := ifc_spec h
 have key : ∀ d, (Op.equalIn (d + 1) t .nilIface .nilIface).run P w = .ok true w := fun d => by simp [Op.equalIn, run_underlying h]
 exact key 9999
theorem eq_ii {P : Program} {w : World} {t s : TypeId} {v : Value} (h : ifc P t = true) : (Op.equal t (.iface s v) .nilIface).run P w = .ok false w := by
 obtain ⟨m, h⟩ := ifc_spec h
 have key : ∀ d, (Op.equalIn (d + 1) t (.iface s v) .nilIface).run P w = .ok false w := fun d => by simp [Op.equalIn, run_underlying h]
 exact key 9999
theorem abinN_sound {P : Program} {K : Ctx} {w : World} {op : BinOp} {t : TypeId} {x r : AV} (h : abinN P op t x = some r) {v : Value} (hv : VR K x v) (ox : Operand) :
  ∃ z, (do eqGuard op t ox (.const .nilIface) v .nilIface; binOp op t v .nilIface : Sem Value).run P w = .ok z w /\ VR K r z := by
 unfold abinN at h
 split at h
 ·rw [VR.raw_iff] at hv; subst hv
  split at h
  ·rename_i hi
   refine aeq_sound h ox (.const .nilIface) (eq_in hi) ?_ rfl rfl
   cases op <;> simp [eqGuard]
  ·cases h
 ·rw [VR.raw_iff] at hv; subst hv
  split at h
  ·rename_i hi
   exact aeq_sound h ox (.const .nilIface) (eq_ii hi) (by cases op <;> rfl) rfl rfl
  ·cases h
 ·cases h
def aun (op : UnOp) (x : AV) : Option AV :=
 match op, x with
 | .neg, .int k n => some (.int k (k.wrap (0 - n)))
 | .not, .bool b => some (.bool (!b))
 | _, _ => none
theorem aun_sound {P : Program} {K : Ctx} {w : World} {op : UnOp} {x r : AV} (h : aun op x = some r) {v : Value} (hv : VR K x v) :
  ∃ z, (Op.unary op v).run P w = .ok z w /\ VR K r z := by
 unfold aun at h
 split at h
 ·rw [VR.int_iff] at hv; subst hv
  simp only [Option.some.injEq] at h; subst h
  exact ⟨_, by simp only [Op.unary, Op.intArith]; rfl, .int _ _⟩
 ·rw [VR.bool_iff] at hv; subst hv
  simp only [Option.some.injEq] at h; subst h
  exact ⟨_, by simp only [Op.unary]; rfl, .bool _⟩
 ·cases h
def aconv (P : Program) (s d : TypeId) (x : AV) : Option AV :=
 match x, sk P d with
 | .int _ n, .int k => if (P.underlying s).isSome then some (.int k (k.wrap n)) else none
 | .str s', .str => if (P.underlying s).isSome then some (.str s') else none
 | _, _ => none
theorem aconv_sound {P : Program} {K : Ctx} {w : World} {s d : TypeId} {x r : AV} (h : aconv P s d x = some r) {v : Value} (hv : VR K x v) :
  ∃ z, (convert s d v).run P w = .ok z w /\ VR K r z := by
 unfold aconv at h
 split at h
 ·rename_i n k hd
  rw [VR.int_iff] at hv; subst hv
  split at h
  ·rename_i hs
   obtain ⟨u, hu⟩ := Option.isSome_iff_exists.1 hs
   simp only [Option.some.injEq] at h; subst h
   refine ⟨.int k (k.wrap n), ?_, .int _ _⟩
   unfold convert
   simp only [Sem.run_bind, run_underlying hu, run_underlying (sk_int hd)]
   cases u <;> rfl
  ·cases h
 ·rename_i s' hd
  rw [VR.str_iff] at hv; subst hv
  split at h
  ·rename_i hs
   obtain ⟨u, hu⟩ := Option.isSome_iff_exists.1 hs
   simp only [Option.some.injEq] at h; subst h
   refine ⟨.string ⟨⟨s'⟩⟩, ?_, .str _⟩
   unfold convert
   simp only [Sem.run_bind, run_underlying hu, run_underlying (sk_str hd)]
   cases u <;> rfl
  ·cases h
 ·cases h
def arrX (P : Program) (t : TypeId) : Option (Nat × Bool × Nat) :=
 match P.underlying t with
 | some (.array m e) => (tk P e).map fun x => (m, x)
 | _ => none
def aindex (P : Program) (t : TypeId) (x i : AV) : Option AV :=
 match x, i with
 | .str s, .int _ i => if sk P t = .str then (if 0 <= i then (match s[i.toNat]? with | some c => some (.int .u8 c.toNat) | none => none) else none) else none
 | .agg cs, .int _ i => (match arrX P t with
  | some (m, ag, n) => if 0 <= i /\ i < m then rd ag n (cs.drop (i.toNat * n)) else none
  | none => none)
 | _, _ => none
theorem part_sound {P : Program} {K : Ctx} {w : World} {t : TypeId} {ag : Bool} {n off : Nat} (ht : tk P t = some (ag, n)) {cs : List AV} {vs : Array Value} (hl : vs.size = cs.length) (h1 : ∀ c, c ∈ cs -> one c = true) (hvv : ∀ j (h : j < cs.length), VR K cs[j] (vs.getD j Go.undef)) {r : AV} (h : rd ag n (cs.drop off) = some r) :
  ∃ z, (part t vs off).run P w = .ok z w /\ VR K r z := by
 obtain ⟨ha, hs, _⟩ := run_tk (b := ag) (n := n) ht w
 unfold rd at h
 cases ag with
 | true =>
  simp only [if_true] at h
  split at h
  ·rename_i hn
   simp only [Option.some.injEq] at h; subst h
   refine ⟨.agg (vs.extract off (off + n)), ?_, .agg _ _ (by simp [hl] at hn ⊢; omega) (fun c hc => h1 c (List.mem_of_mem_drop (List.mem_of_mem_take hc))) (fun j hj => ?_)⟩
   ·simp [part, ha, hs]
   ·have hj' : off + j < cs.length := by simp at hj; omega
    have hjn : j < n := by simp at hj; omega
    have := hvv _ hj'
    have hj2 : off + j < vs.size := by omega
    have hj3 : j < min (off + n) vs.size - off := by omega
    simpa [Array.getD, hj2, hj3] using this
  ·cases h
 | false =>
  simp only [Bool.false_eq_true, if_false] at h
  have hlt : off < cs.length := by
   rcases Nat.lt_or_ge off cs.length with h' | h'
   ·exact h'
   ·rw [List.drop_eq_nil_of_le h'] at h; cases h
  have hlt' : off < vs.size := by omega
  rw [List.head?_drop, List.getElem?_eq_getElem hlt, Option.some.injEq] at h
  subst h
  refine ⟨vs[off], ?_, by have := hvv _ hlt; simpa [Array.getD, hlt'] using this⟩
  simp [part, ha, hlt']
theorem aindex_sound {P : Program} {K : Ctx} {w : World} {t : TypeId} {x i r : AV} (h : aindex P t x i = some r) {v u : Value} (hv : VR K x v) (hu : VR K i u) :
  ∃ z, (Instr.index t v u).run P w = .ok z w /\ VR K r z := by
 unfold aindex at h
 split at h
 ·rename_i s k i
  rw [VR.str_iff] at hv; rw [VR.int_iff] at hu; subst hv hu
  split at h
  ·rename_i hs
   split at h
   ·rename_i h0
    split at h
    ·rename_i c hc
     simp only [Option.some.injEq] at h; subst h
     refine ⟨.int .u8 c.toNat, ?_, .int _ _⟩
     have : (ByteArray.mk (Array.mk s))[i.toNat]? = some c := by
      obtain ⟨hlt, hcc⟩ := List.getElem?_eq_some_iff.1 hc
      have hlt' : i.toNat < (ByteArray.mk (Array.mk s)).size := hlt
      rw [getElem?_pos (ByteArray.mk (Array.mk s)) i.toNat hlt']
      exact congrArg some hcc
     unfold Instr.index
     simp [asIntOf, run_underlying (sk_str hs), h0, this]
    ·cases h
   ·cases h
  ·cases h
 ·rename_i cs k i
  rw [VR.int_iff] at hu; subst hu
  split at h
  case h_2 => cases h
  rename_i m ag n hm
  split at h
  case isFalse => cases h
  rename_i hc
  unfold arrX at hm
  split at hm
  case h_2 => cases hm
  rename_i m' e' hund
  cases htk : tk P e' with
  | none => rw [htk] at hm; cases hm
  | some x =>
   rw [htk] at hm
   simp only [Option.map_some, Option.some.injEq, Prod.mk.injEq] at hm
   obtain ⟨rfl, rfl⟩ := hm
   cases hv with
   | agg _ vs hl h1 hvv =>
    obtain ⟨z, hz, hr⟩ := part_sound (w := w) (K := K) htk hl h1 hvv h
    refine ⟨z, ?_, hr⟩
    obtain ⟨_, hs, _⟩ := run_tk htk w
    unfold Instr.index
    simp [asIntOf, run_underlying hund, hc.1, hc.2, hs, hz]
 ·cases h
def aextract (x : AV) (i : Nat) : Option AV :=
 match x with
 | .tup vs => vs[i]?
 | _ => none
theorem aextract_sound {P : Program} {K : Ctx} {w : World} {x r : AV} {i : Nat} (h : aextract x i = some r) {v : Value} (hv : VR K x v) :
  ∃ z, (Instr.extract v i).run P w = .ok z w /\ VR K r z := by
 unfold aextract at h
 split at h
 ·rename_i vs
  obtain ⟨hi, rfl⟩ := List.getElem?_eq_some_iff.1 h
  cases hv with
  | tup _ us hl hv =>
   have hi' : i < us.size := by omega
   refine ⟨us[i], ?_, by have := hv i hi; simpa [Array.getD, hi'] using this⟩
   unfold Instr.extract
   simp [hi']
 ·cases h
def afieldv (P : Program) (t : TypeId) (x : AV) (i : Nat) : Option AV :=
 match x, fld P t i with
 | .agg cs, some (off, ag, n) => rd ag n (cs.drop off)
 | _, _ => none
theorem afieldv_sound {P : Program} {K : Ctx} {w : World} {t : TypeId} {x r : AV} {i : Nat} (h : afieldv P t x i = some r) {v : Value} (hv : VR K x v) :
  ∃ z, (Instr.field t v i).run P w = .ok z w /\ VR K r z := by
 unfold afieldv at h
 split at h
 ·rename_i cs off ag n hf
  cases hv with
  | agg _ vs hl h1 hvv =>
   unfold fld at hf
   split at hf
   ·rename_i fs hu
    split at hf
    ·rename_i f hfi
     cases htk : tk P f.type with
     | none => rw [htk] at hf; cases hf
     | some x =>
      rw [htk] at hf
      simp only [Option.map_some, Option.some.injEq, Prod.mk.injEq] at hf
      obtain ⟨rfl, hx⟩ := hf
      subst hx
      obtain ⟨ha, hs, _⟩ := run_tk (b := ag) (n := n) htk w
      unfold rd at h
      cases ag with
      | true =>
       simp only [if_true] at h
       split at h
       ·rename_i hn
        simp only [Option.some.injEq] at h; subst h
        refine ⟨.agg (vs.extract f.offset (f.offset + n)), ?_, .agg _ _ (by simp [hl]; omega) (fun c hc => h1 c (List.mem_of_mem_drop (List.mem_of_mem_take hc))) (fun j hj => ?_)⟩
        ·unfold Instr.field
         simp [run_underlying hu, hfi, asAgg, part, ha, hs]
        ·have hj' : f.offset + j < cs.length := by simp at hj; omega
         have hjn : j < n := by simp at hj; omega
         have := hvv _ hj'
         have hj2 : f.offset + j < vs.size := by omega
         have hj3 : j < min (f.offset + n) vs.size - f.offset := by omega
         simpa [Array.getD, hj2, hj3] using this
       ·cases h
      | false =>
       simp only [Bool.false_eq_true, if_false] at h
       have hlt : f.offset < cs.length := by
        rcases Nat.lt_or_ge f.offset cs.length with h' | h'
        ·exact h'
        ·rw [List.drop_eq_nil_of_le h'] at h; cases h
       have hlt' : f.offset < vs.size := by omega
       rw [List.head?_drop, List.getElem?_eq_getElem hlt, Option.some.injEq] at h
       subst h
       refine ⟨vs[f.offset], ?_, by have := hvv _ hlt; simpa [Array.getD, hlt'] using this⟩
       unfold Instr.field
       simp [run_underlying hu, hfi, asAgg, part, ha, hlt']
    ·cases hf
   ·cases hf
 ·cases h
end Go.Av
namespace Go.Av
open Go Go.RowKit
def abnd (o : Option AV) (d : Nat) : Option Nat :=
 match o with
 | none => some d
 | some (.int _ i) => if 0 <= i then some i.toNat else none
 | _ => none
theorem run_sliceBound {P : Program} {K : Ctx} {w : World} {o : AV} {d n : Nat} (h : abnd (some o) d = some n) {v : Value} (hv : VR K o v) (y : Nat) (hy : n <= y) (code : BoundsCode) :
  (Instr.sliceBound v y code).run P w = .ok n w := by
 unfold abnd at h
 split at h
 ·rename_i heq; cases heq
 ·rename_i k i heq
  simp only [Option.some.injEq] at heq; subst heq
  rw [VR.int_iff] at hv; subst hv
  split at h
  ·rename_i h0
   simp only [Option.some.injEq] at h; subst h
   have : 0 <= i /\ i <= (y : Int) := by omega
   simp [Instr.sliceBound, asIntOf, this]
  ·cases h
 ·cases h
theorem run_sliceBounds {P : Program} {K : Ctx} {w : World} {lo hi : Option AV} {len cap l h : Nat} (hl : abnd lo 0 = some l) (hh : abnd hi len = some h) (hlh : l <= h) (hcap : h <= cap)
  {vlo vhi : Option Value} (hvl : ∀ a, lo = some a -> ∃ v, vlo = some v /\ VR K a v) (hvln : lo = none -> vlo = none) (hvh : ∀ a, hi = some a -> ∃ v, vhi = some v /\ VR K a v) (hvhn : hi = none -> vhi = none) (b : Bool) :
  (Instr.sliceBounds b len cap vlo vhi none).run P w = .ok (l, h, cap) w := by
 unfold Instr.sliceBounds
 cases hi with
 | none =>
  rw [hvhn rfl]
  simp only [abnd, Option.some.injEq] at hh; subst hh
  cases lo with
  | none =>
   rw [hvln rfl]
   simp only [abnd, Option.some.injEq] at hl; subst hl
   simp
  | some a =>
   obtain ⟨v, rfl, hv⟩ := hvl a rfl
   have := run_sliceBound (P := P) (w := w) hl hv len hlh .sliceB
   simp [this]
 | some c =>
  obtain ⟨u, rfl, hu⟩ := hvh c rfl
  have h1 := fun code => run_sliceBound (P := P) (w := w) hh hu cap hcap code
  cases lo with
  | none =>
   rw [hvln rfl]
   simp only [abnd, Option.some.injEq] at hl; subst hl
   simp [h1]
  | some a =>
   obtain ⟨v, rfl, hv⟩ := hvl a rfl
   have := run_sliceBound (P := P) (w := w) hl hv h hlh .sliceB
   simp [this, h1]
def pieceGh (g : Gh) (l h len : Nat) : Gh :=
 match g with
 | .none => .none
 | .full => if h = len then .full else .none
 | .own b => if l = 0 /\ h = len then .own b else .none
open Classical in
noncomputable def aslice0 (P : Program) (t : TypeId) (x : AV) (lo hi : Option AV) : Option AV :=
 match x with
 | .str s => if sk P t = .str then
   match abnd lo 0, abnd hi s.length with
   | some l, some h => if l <= h /\ h <= s.length then some (.str ((s.take h).drop l)) else none
   | _, _ => none
  else none
 | .nil => match el P t, abnd lo 0, abnd hi 0 with
  | some e, some l, some h => if l <= h /\ h <= 0 /\ (tk P e).isSome then some .nil else none
  | _, _, _ => none
 | .sl g xs sp => match el P t, abnd lo 0, abnd hi xs.length with
  | some e, some l, some h => match tk P e with
   | some (_, n) => if l <= h /\ h <= xs.length + sp.length /\ (l = 0 \/ ∀ a, a ∈ xs ++ sp -> (flat a).length = n) then
     some (.sl (pieceGh g l h xs.length) (((xs ++ sp).take h).drop l) ((xs ++ sp).drop h)) else none
   | none => none
  | _, _, _ => none
 | .bs b n s E => match el P t, abnd lo 0, abnd hi n with
  | some e, some l, some h => if l = 0 /\ h <= n /\ (tk P e).isSome then some (.bs b h s E) else none
  | _, _, _ => none
 | .rp cs => match lo, hi, arrT P t with
  | none, none, some (m, 1) => if m = cs.length /\ m <= maxLen then some (.sl .none cs []) else none
  | _, _, _ => none
 | _ => none
theorem flat_one {a : AV} (h : one a = true) : flat a = [a] /\ isv a = true := by cases a <;> first | exact ⟨rfl, h⟩ | cases h
theorem flat_ones : ∀ (l : List AV), (∀ a, a ∈ l -> one a = true) -> l.flatMap flat = l
 | [], _ => rfl
 | a :: l, h => by rw [List.flatMap_cons, (flat_one (h a (by simp))).1, flat_ones l fun b hb => h b (by simp [hb])]; rfl
theorem run_arrT {P : Program} {t : TypeId} {m n : Nat} (h : arrT P t = some (m, n)) : ∃ e i, P.underlying t = some (.array m e) /\ P.info? e = some i /\ i.size = n := by
 unfold arrT at h
 split at h
 ·rename_i m' e hu
  obtain ⟨i, hi, he⟩ := Option.map_eq_some_iff.1 h
  simp only [Prod.mk.injEq] at he
  obtain ⟨rfl, rfl⟩ := he
  exact ⟨e, i, hu, hi, rfl⟩
 ·cases h
theorem flatMap_drop {sz : Nat} (l : List AV) (h : ∀ e, e ∈ l -> (flat e).length = sz) (k j : Nat) (hj : k * sz + j < (l.flatMap flat).length) (hj2 : j < ((l.drop k).flatMap flat).length) :
  ((l.drop k).flatMap flat)[j] = (l.flatMap flat)[k * sz + j] := by
 induction l generalizing k with
 | nil => simp at hj
 | cons x l ih =>
  have hx := h x (by simp)
  cases k with
  | zero => simp
  | succ k =>
   simp only [List.drop_succ_cons, List.flatMap_cons] at hj2 ⊢
   have e : (k + 1) * sz + j = (flat x).length + (k * sz + j) := by rw [hx, Nat.succ_mul]; omega
   have hlt : k * sz + j < (l.flatMap flat).length := by
    simp only [List.flatMap_cons, List.length_append] at hj; omega
   rw [ih (fun a ha => h a (by simp [ha])) k hlt hj2]
   have h3 : ((flat x) ++ l.flatMap flat)[(k + 1) * sz + j]? = (l.flatMap flat)[k * sz + j]? := by
    rw [e, List.getElem?_append_right (by omega)]; congr 1; omega
   have h4 := List.getElem?_eq_getElem hj
   simp only [List.flatMap_cons] at h4
   rw [h3, List.getElem?_eq_getElem hlt] at h4
   exact Option.some.inj h4
theorem aslice0_sound {P : Program} {K : Ctx} {w : World} {t : TypeId} {x r : AV} {lo hi : Option AV} (h : aslice0 P t x lo hi = some r) {v : Value} (hv : VR K x v)
  {vlo vhi : Option Value} (hvl : ∀ a, lo = some a -> ∃ v, vlo = some v /\ VR K a v) (hvln : lo = none -> vlo = none) (hvh : ∀ a, hi = some a -> ∃ v, vhi = some v /\ VR K a v) (hvhn : hi = none -> vhi = none) :
  ∃ z, (Instr.sliceAt t v vlo vhi none).run P w = .ok z w /\ VR K r z := by
 unfold aslice0 at h
 split at h
 ·rename_i s
  rw [VR.str_iff] at hv; subst hv
  split at h
  ·rename_i hs
   have hu := sk_str hs
   split at h
   ·rename_i l hh hl hhh
    split at h
    ·rename_i hc
     simp only [Option.some.injEq] at h; subst h
     have hb := run_sliceBounds (P := P) (w := w) (len := s.length) (cap := s.length) hl hhh hc.1 hc.2 hvl hvln hvh hvhn false
     refine ⟨.string ((ByteArray.mk (Array.mk s)).extract l hh), ?_, ?_⟩
     ·have hsz : (ByteArray.mk (Array.mk s)).size = s.length := rfl
      unfold Instr.sliceAt Instr.slice
      simp [run_underlying hu, hsz, hb]
     ·have : (ByteArray.mk (Array.mk s)).extract l hh = ⟨⟨(s.take hh).drop l⟩⟩ := by
       apply ByteArray.ext
       rw [ByteArray.data_extract]
       apply Array.ext'
       simp [List.drop_take]
      rw [this]; exact .str _
    ·cases h
   ·cases h
  ·cases h
 ·rw [VR.nil_iff] at hv; subst hv
  split at h
  ·rename_i e l hh he hl hhh
   split at h
   ·rename_i hc
    simp only [Option.some.injEq] at h; subst h
    have hh0 : hh = 0 := by omega
    have hl0 : l = 0 := by omega
    subst hh0 hl0
    obtain ⟨x, hx⟩ := Option.isSome_iff_exists.1 hc.2.2
    obtain ⟨_, hsz, _⟩ := run_tk (b := x.1) (n := x.2) hx w
    have hb := run_sliceBounds (P := P) (w := w) (len := 0) (cap := 0) hl hhh (Nat.le_refl _) (Nat.le_refl _) hvl hvln hvh hvhn true
    refine ⟨.slice none 0 0, ?_, .nil⟩
    unfold Instr.sliceAt Instr.slice
    simp [run_underlying (run_el he), hb, hsz]
   ·cases h
  ·cases h
 ·rename_i g xs sp
  split at h
  ·rename_i e l hh he hl hhh
   split at h
   ·rename_i ag n hn
    split at h
    ·rename_i hc
     simp only [Option.some.injEq] at h; subst h
     obtain ⟨hc1, hc2, hc3⟩ := hc
     obtain ⟨_, hsz, _⟩ := run_tk hn w
     cases hv with
     | sl0 a =>
      have hh0 : hh = 0 := by simpa using hc2
      have hl0 : l = 0 := by omega
      subst hh0 hl0
      have hb := run_sliceBounds (P := P) (w := w) (len := 0) (cap := 0) hl hhh (Nat.le_refl _) (Nat.le_refl _) hvl hvln hvh hvhn true
      refine ⟨.slice a 0 0, ?_, .sl0 a⟩
      unfold Instr.sliceAt Instr.slice
      simp [run_underlying (run_el he), hb, hsz]
     | sl _ _ _ sz b off cap f hsze hcap hml himm hvv hg =>
      have hb := run_sliceBounds (P := P) (w := w) (len := xs.length) (cap := cap) hl hhh hc1 (by omega) hvl hvln hvh hvhn true
      have hlen := flatMap_length (sz := sz) (xs ++ sp) (fun e he => (hsze e he).1)
      have hxl : (((xs ++ sp).take hh).drop l).length = hh - l := by simp; omega
      -- the new address
      have hadr : ∃ off', (if cap = l then (some (⟨b, off, none⟩ : Addr)) else (some (⟨b, off, none⟩ : Addr)).map (·.add (l * n))) = some ⟨b, off', none⟩ /\
        (l = 0 -> off' = off) /\ ((((xs ++ sp).take hh).drop l ++ (xs ++ sp).drop hh).flatMap flat ≠ [] -> off' = off + l * sz) := by
       by_cases hcl : cap = l
       ·refine ⟨off, by rw [if_pos hcl], fun _ => rfl, fun hne => ?_⟩
        have : ((xs ++ sp).take hh).drop l ++ (xs ++ sp).drop hh = (xs ++ sp).drop l := by
         rw [<- List.drop_append_of_le_length (by simp; omega), List.take_append_drop]
        rw [this, List.drop_eq_nil_of_le (by simp; omega)] at hne
        exact absurd rfl hne
       ·refine ⟨off + l * n, by rw [if_neg hcl]; simp [Addr.add_lit], fun hl0 => by rw [hl0]; simp, fun hne => ?_⟩
        rcases hc3 with h0 | hall
        ·rw [h0]; simp
        ·have hx : ∃ a, a ∈ xs ++ sp := by
          cases hxs : xs ++ sp with
          | nil => rw [hxs] at hne; simp at hne
          | cons a _ => exact ⟨a, by simp⟩
         obtain ⟨a, ha⟩ := hx
         rw [<- hall a ha, <- (hsze a ha).1]
      obtain ⟨off', hoff, hoff0, hoff1⟩ := hadr
      refine ⟨.slice (some ⟨b, off', none⟩) (hh - l) (cap - l), ?_, ?_⟩
      ·unfold Instr.sliceAt Instr.slice
       simp [run_underlying (run_el he), hb, hsz]
       exact hoff
      ·have hall : ((xs ++ sp).take hh).drop l ++ (xs ++ sp).drop hh = (xs ++ sp).drop l := by
        rw [<- List.drop_append_of_le_length (by simp; omega), List.take_append_drop]
       have hmem : ∀ a, a ∈ ((xs ++ sp).take hh).drop l ++ (xs ++ sp).drop hh -> a ∈ xs ++ sp := fun a ha => by
        rw [hall] at ha; exact List.mem_of_mem_drop ha
       have hlen2 := flatMap_length (sz := sz) ((xs ++ sp).drop l) (fun e he => (hsze e (List.mem_of_mem_drop he)).1)
       have key : ∀ j, j < ((xs ++ sp).drop l).length * sz -> l * sz + j < ((xs ++ sp).flatMap flat).length := by
        intro j hj
        rw [hlen]
        simp only [List.length_drop] at hj
        have h5 : (xs ++ sp).length * sz = ((xs ++ sp).length - l) * sz + l * sz := by
         rw [<- Nat.add_mul]; congr 1; simp; omega
        omega
       have := VR.sl (K := K) (pieceGh g l hh xs.length) (((xs ++ sp).take hh).drop l) ((xs ++ sp).drop hh) sz b off' (cap - l) (fun j => f (l * sz + j))
        (fun e he => hsze e (hmem e he)) (by simp; omega) (by omega)
        (fun j hj => by
          have hne : (((xs ++ sp).take hh).drop l ++ (xs ++ sp).drop hh).flatMap flat ≠ [] := by intro hh'; rw [hh'] at hj; simp at hj
          rw [hoff1 hne, Nat.add_assoc]
          rw [hall, hlen2] at hj
          exact himm _ (key j hj))
        (fun j hj => by
          have hj' := hj
          rw [hall, hlen2] at hj'
          have h6 := hvv _ (key j hj')
          have hj3 : j < (((xs ++ sp).drop l).flatMap flat).length := by rw [hlen2]; exact hj'
          have h7 := flatMap_drop (sz := sz) (xs ++ sp) (fun e he => (hsze e he).1) l j (key j hj') hj3
          rw [<- h7] at h6
          have h8 : ((((xs ++ sp).take hh).drop l ++ (xs ++ sp).drop hh).flatMap flat)[j] = (((xs ++ sp).drop l).flatMap flat)[j] := by
           congr 1; rw [hall]
          rw [h8]; exact h6)
        (by
          rw [hxl]
          cases g with
          | none => trivial
          | full =>
           simp only [pieceGh]
           split
           ·rename_i hx; simp only [Gh.ok] at hg ⊢; omega
           ·trivial
          | own b' =>
           simp only [pieceGh]
           split
           ·rename_i hx
            obtain ⟨g1, g2, E, s, g3⟩ := hg
            obtain ⟨rfl, _⟩ := hx
            exact ⟨g1, (hoff0 rfl).trans g2, E, s, by simpa using g3⟩
           ·trivial)
       rw [hxl] at this
       exact this
    ·cases h
   ·cases h
  ·cases h
 ·rename_i b n s E0
  split at h
  ·rename_i e l hh he hl hhh
   split at h
   ·rename_i hc
    simp only [Option.some.injEq] at h; subst h
    obtain ⟨rfl, hc2, hc3⟩ := hc
    obtain ⟨x, hx⟩ := Option.isSome_iff_exists.1 hc3
    obtain ⟨_, hsz, _⟩ := run_tk (b := x.1) (n := x.2) hx w
    cases hv with
    | bs _ _ _ cap E hr hnn hm =>
     have hb := run_sliceBounds (P := P) (w := w) (len := n) (cap := cap) hl hhh (Nat.zero_le _) (by omega) hvl hvln hvh hvhn true
     refine ⟨.slice (some ⟨b, 0, none⟩) hh cap, ?_, .bs b hh s cap _ hr (by omega) hm⟩
     unfold Instr.sliceAt Instr.slice
     simp [run_underlying (run_el he), hb, hsz, Addr.add_lit]
   ·cases h
  ·cases h
 ·rename_i cs
  split at h
  ·rename_i m hm
   split at h
   ·rename_i hc
    simp only [Option.some.injEq] at h; subst h
    obtain ⟨rfl, hml⟩ := hc
    obtain ⟨e, i, hu, hi, hsz⟩ := run_arrT hm
    cases hv with
    | rp _ b off f h1 himm hvv =>
     have hfl := flat_ones cs h1
     have hb := run_sliceBounds (P := P) (w := w) (lo := none) (hi := none) (len := cs.length) (cap := cs.length) (l := 0) (h := cs.length) rfl rfl (Nat.zero_le _) (Nat.le_refl _) hvl hvln hvh hvhn false
     refine ⟨.slice (some ⟨b, off, none⟩) cs.length cs.length, ?_, ?_⟩
     ·unfold Instr.sliceAt
      simp [run_underlying hu, Instr.sureAddr, asAddr, hb, sizeOf, typeInfo, hi, Addr.add_lit]
     ·have := VR.sl (K := K) .none cs [] 1 b off cs.length f (fun a ha => by
       have ha' : a ∈ cs := by simpa using ha
       have g := flat_one (h1 a ha')
       exact ⟨by rw [g.1]; rfl, g.2, fun c hc => by rw [g.1] at hc; simp at hc; subst hc; exact h1 c ha'⟩) (by simp) hml
       (fun j hj => by rw [List.append_nil, hfl] at hj; exact himm j hj)
       (fun j hj => by
         have hj' : j < cs.length := by rw [List.append_nil, hfl] at hj; exact hj
         have e1 : ((cs ++ []).flatMap flat)[j] = cs[j] := by congr 1; rw [List.append_nil, hfl]
         rw [e1]; exact hvv j hj') trivial
      exact this
   ·cases h
  ·cases h
 ·cases h
theorem VR.spareless {K : Ctx} {g : Gh} {xs sp : List AV} {v : Value} (h : VR K (.sl g xs sp) v) : VR K (.sl g xs []) v := by
 cases h with
 | sl0 a => exact .sl0 a
 | sl _ _ _ sz b off cap f hsz hcap hml himm hvv hg =>
  have hle : (xs.flatMap flat).length <= ((xs ++ sp).flatMap flat).length := by simp
  have := VR.sl (K := K) g xs [] sz b off cap f (fun e he => hsz e (List.mem_append_left _ (by simpa using he))) (by simp; omega) hml
   (fun j hj => himm j (by simp only [List.append_nil] at hj; omega))
   (fun j hj => by
     simp only [List.append_nil] at hj ⊢
     have h1 := hvv j (by omega)
     have : ((xs ++ sp).flatMap flat)[j]'(by omega) = (xs.flatMap flat)[j] := by
      have h2 : ((xs ++ sp).flatMap flat)[j]? = (xs.flatMap flat)[j]? := by
       rw [List.flatMap_append, List.getElem?_append_left hj]
      rw [List.getElem?_eq_getElem (by omega), List.getElem?_eq_getElem hj] at h2
      exact Option.some.inj h2
     rw [this] at h1; exact h1) hg
  exact this
def slim (x r : AV) : AV := match x, r with
 | .sl .none _ [], .sl g xs _ => .sl g xs []
 | _, r => r
theorem VR.thinned {K : Ctx} {x r : AV} {v : Value} (h : VR K r v) : VR K (slim x r) v := by
 unfold slim
 split
 ·exact h.spareless
 ·exact h
noncomputable def aslice (P : Program) (t : TypeId) (x : AV) (lo hi : Option AV) : Option AV := (aslice0 P t x lo hi).map (slim x)
theorem aslice_sound {P : Program} {K : Ctx} {w : World} {t : TypeId} {x r : AV} {lo hi : Option AV} (h : aslice P t x lo hi = some r) {v : Value} (hv : VR K x v)
  {vlo vhi : Option Value} (hvl : ∀ a, lo = some a -> ∃ v, vlo = some v /\ VR K a v) (hvln : lo = none -> vlo = none) (hvh : ∀ a, hi = some a -> ∃ v, vhi = some v /\ VR K a v) (hvhn : hi = none -> vhi = none) :
  ∃ z, (Instr.sliceAt t v vlo vhi none).run P w = .ok z w /\ VR K r z := by
 obtain ⟨r0, h0, rfl⟩ := Option.map_eq_some_iff.1 h
 obtain ⟨z, h1, h2⟩ := aslice0_sound h0 hv hvl hvln hvh hvhn
 exact ⟨z, h1, h2.thinned⟩
def ablt (P : Program) (b : Builtin) (ts : Array TypeId) (args : List AV) : Option AV :=
 match b, ts[0]?, args with
 | .len, some t, [.str s] => if sk P t = .str then some (.int .i64 s.length) else none
 | .len, some t, [.nil] => if (el P t).isSome then some (.int .i64 0) else none
 | .len, some t, [.sl _ xs _] => if (el P t).isSome then some (.int .i64 xs.length) else none
 | .unsafeSliceData, _, [.nil] => some .nilptr
 | .unsafeSliceData, _, [.bs b n s E] => if 0 < n then some (.bp b s E) else none
 | .len, some t, [.bs _ n _ _] => if (el P t).isSome then some (.int .i64 n) else none
 | .cap, some t, [.nil] => if (el P t).isSome then some (.int .i64 0) else none
 | .max, _, [.int k a, .int _ b] => some (.int k (if b > a then b else a))
 | .min, _, [.int k a, .int _ b] => some (.int k (if b < a then b else a))
 | .max, _, [.int k a, .int _ b, .int _ c] => some (.int k (if c > (if b > a then b else a) then c else (if b > a then b else a)))
 | .min, _, [.int k a, .int _ b, .int _ c] => some (.int k (if c < (if b < a then b else a) then c else (if b < a then b else a)))
 | _, _, _ => none
def VRl (K : Ctx) : List AV -> List Value -> Prop
 | [], [] => True
 | a :: l, v :: r => VR K a v /\ VRl K l r
 | _, _ => False
theorem VRl.length {K : Ctx} : ∀ {l : List AV} {r : List Value}, VRl K l r -> l.length = r.length
 | [], [], _ => rfl
 | a :: l, v :: r, h => by simp [VRl.length h.2]
 | [], _ :: _, h => h.elim
 | _ :: _, [], h => h.elim
theorem VRl.get {K : Ctx} : ∀ {l : List AV} {r : List Value}, VRl K l r -> ∀ (j : Nat) (h : j < l.length), VR K l[j] (r.getD j Go.undef)
 | a :: l, v :: r, h, 0, _ => h.1
 | a :: l, v :: r, h, j + 1, hj => by simpa using VRl.get h.2 j (by simpa using hj)
 | [], [], _, j, h => by cases h
 | _ :: _, [], h, _, _ => h.elim
theorem VRl.map {K : Ctx} {G : Nat -> AV} {σ : AS} {w : World} {e : Env} {a : Act} (h : ER K e a) (hr : Rel G K σ w) : ∀ (l : List Operand), VRl K (l.map (ev G e)) (l.map a.eval)
 | [] => trivial
 | x :: l => ⟨h.eval hr x, VRl.map h hr l⟩
theorem VRl.mono {K K' : Ctx} (h : K.le K') : ∀ {l : List AV} {r : List Value}, VRl K l r -> VRl K' l r
 | [], [], _ => trivial
 | a :: l, v :: r, k => ⟨k.1.mono h, VRl.mono h k.2⟩
 | [], _ :: _, k => k.elim
 | _ :: _, [], k => k.elim
theorem VRl.append {K : Ctx} : ∀ {l l' : List AV} {r r' : List Value}, VRl K l r -> VRl K l' r' -> VRl K (l ++ l') (r ++ r')
 | [], _, [], _, _, h => h
 | a :: l, _, v :: r, _, k, h => ⟨k.1, VRl.append k.2 h⟩
 | [], _, _ :: _, _, k, _ => k.elim
 | _ :: _, _, [], _, k, _ => k.elim
theorem VRl.of {K : Ctx} : ∀ {l : List AV} {r : List Value}, l.length = r.length -> (∀ (j : Nat) (h : j < l.length), VR K l[j] (r.getD j Go.undef)) -> VRl K l r
 | [], [], _, _ => trivial
 | a :: l, v :: r, h, k => ⟨k 0 (by simp), VRl.of (by simpa using h) (fun j hj => k (j + 1) (by simpa using hj))⟩
 | [], _ :: _, h, _ => by cases h
 | _ :: _, [], h, _ => by cases h
theorem ablt_sound {P : Program} {K : Ctx} {w : World} {b : Builtin} {ts : Array TypeId} {ty : TypeId} {cn : Array Bool} {args : List AV} {r : AV} (h : ablt P b ts args = some r) {vs : List Value} (hv : VRl K args vs) :
  ∃ z, (builtin b ts ty cn vs.toArray).run P w = .ok (.value z) w /\ VR K r z := by
 unfold ablt at h
 split at h
 ·rename_i t s ht
  split at h
  ·rename_i hs
   simp only [Option.some.injEq] at h; subst h
   match vs, hv with
   | [v], ⟨h1, _⟩ =>
    rw [VR.str_iff] at h1; subst h1
    refine ⟨.int .i64 s.length, ?_, .int _ _⟩
    have hsz : (ByteArray.mk (Array.mk s)).size = s.length := rfl
    simp [builtin, Builtin.len_, ht, run_underlying (sk_str hs), goInt, hsz]
  ·cases h
 ·rename_i t ht
  split at h
  ·rename_i hs
   obtain ⟨e, he⟩ := Option.isSome_iff_exists.1 hs
   simp only [Option.some.injEq] at h; subst h
   match vs, hv with
   | [v], ⟨h1, _⟩ =>
    rw [VR.nil_iff] at h1; subst h1
    exact ⟨.int .i64 0, by simp [builtin, Builtin.len_, ht, run_underlying (run_el he), goInt], .int _ _⟩
  ·cases h
 ·rename_i t g xs sp ht
  split at h
  ·rename_i hs
   obtain ⟨e, he⟩ := Option.isSome_iff_exists.1 hs
   simp only [Option.some.injEq] at h; subst h
   match vs, hv with
   | [v], ⟨h1, _⟩ =>
    cases h1
    case sl0 => exact ⟨.int .i64 0, by simp [builtin, Builtin.len_, ht, run_underlying (run_el he), goInt], .int _ _⟩
    exact ⟨.int .i64 xs.length, by simp [builtin, Builtin.len_, ht, run_underlying (run_el he), goInt], .int _ _⟩
  ·cases h
 ·simp only [Option.some.injEq] at h; subst h
  match vs, hv with
  | [v], ⟨h1, _⟩ =>
   rw [VR.nil_iff] at h1; subst h1
   exact ⟨.pointer none, rfl, .nilptr⟩
 ·rename_i b n s E
  split at h
  ·rename_i hn
   simp only [Option.some.injEq] at h; subst h
   match vs, hv with
   | [v], ⟨h1, _⟩ =>
    cases h1 with
    | bs _ _ _ cap _ hr hnn hm =>
     obtain ⟨c, rfl⟩ : ∃ c, cap = c + 1 := ⟨cap - 1, by omega⟩
     exact ⟨.pointer (some ⟨b, 0, none⟩), rfl, .bp b s _ E hr⟩
  ·cases h
 ·rename_i t b n s E ht
  split at h
  ·rename_i hs
   obtain ⟨e, he⟩ := Option.isSome_iff_exists.1 hs
   simp only [Option.some.injEq] at h; subst h
   match vs, hv with
   | [v], ⟨h1, _⟩ =>
    cases h1
    exact ⟨.int .i64 n, by simp [builtin, Builtin.len_, ht, run_underlying (run_el he), goInt], .int _ _⟩
  ·cases h
 ·rename_i t ht
  split at h
  ·rename_i hs
   obtain ⟨e, he⟩ := Option.isSome_iff_exists.1 hs
   simp only [Option.some.injEq] at h; subst h
   match vs, hv with
   | [v], ⟨h1, _⟩ =>
    rw [VR.nil_iff] at h1; subst h1
    exact ⟨.int .i64 0, by simp [builtin, Builtin.cap_, ht, run_underlying (run_el he), goInt], .int _ _⟩
  ·cases h
 all_goals first
  | (rename_i k a k' b
     simp only [Option.some.injEq] at h; subst h
     match vs, hv with
     | [v, u], ⟨h1, h2, _⟩ =>
      rw [VR.int_iff] at h1 h2; subst h1 h2
      first
      | exact ⟨_, by simp [builtin, Builtin.max_, Builtin.max2]; rfl, .int _ _⟩
      | exact ⟨_, by simp [builtin, Builtin.min_, Builtin.min2]; rfl, .int _ _⟩)
  | (rename_i k a k' b k'' c
     simp only [Option.some.injEq] at h; subst h
     match vs, hv with
     | [v, u, x], ⟨h1, h2, h3, _⟩ =>
      rw [VR.int_iff] at h1 h2 h3; subst h1 h2 h3
      first
      | exact ⟨_, by simp [builtin, Builtin.max_, Builtin.max2]; rfl, .int _ _⟩
      | exact ⟨_, by simp [builtin, Builtin.min_, Builtin.min2]; rfl, .int _ _⟩)
  | cases h
end Go.Av
