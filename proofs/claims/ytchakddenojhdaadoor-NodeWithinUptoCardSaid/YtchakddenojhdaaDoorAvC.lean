/- Arithmetic, comparisons, conversions, indexes, pieces, lengths on abstract values. -/
import Derived.Test.YtchakddenojhdaaDoorAvB
set_option linter.unusedVariables false
set_option linter.unusedSimpArgs false
namespace Go.Av
open Go Go.RowKit

inductive SK where
  | bool | int (k : IntKind) | str | sl (e : TypeId) | ptr (e : TypeId) | fn | st | map (k e : TypeId) | arr (n : Nat) (e : TypeId) | oth
  deriving DecidableEq
def skOf : Option TypeDesc → SK
  | some .bool => .bool
  | some (.int k) => .int k
  | some .string => .str
  | some (.slice e) => .sl e
  | some (.pointer e) => .ptr e
  | some (.func ..) => .fn
  | some (.struct _) => .st
  | some (.map k e) => .map k e
  | some (.array n e) => .arr n e
  | _ => .oth
def sk (P : Program) (t : TypeId) : SK := skOf (P.underlying t)
section sk
variable {P : Program} {t : TypeId}
theorem sk_bool (h : sk P t = .bool) : P.underlying t = some .bool := by
  unfold sk skOf at h; split at h <;> first | assumption | cases h
theorem sk_int {k : IntKind} (h : sk P t = .int k) : P.underlying t = some (.int k) := by
  unfold sk skOf at h; split at h <;> first | (cases h; assumption) | cases h
theorem sk_str (h : sk P t = .str) : P.underlying t = some .string := by
  unfold sk skOf at h; split at h <;> first | assumption | cases h
theorem sk_sl {e : TypeId} (h : sk P t = .sl e) : P.underlying t = some (.slice e) := by
  unfold sk skOf at h; split at h <;> first | (cases h; assumption) | cases h
theorem sk_ptr {e : TypeId} (h : sk P t = .ptr e) : P.underlying t = some (.pointer e) := by
  unfold sk skOf at h; split at h <;> first | (cases h; assumption) | cases h
theorem sk_fn (h : sk P t = .fn) : ∃ a b c, P.underlying t = some (.func a b c) := by
  unfold sk skOf at h; split at h <;> first | exact ⟨_, _, _, by assumption⟩ | cases h
theorem sk_map {k e : TypeId} (h : sk P t = .map k e) : P.underlying t = some (.map k e) := by
  unfold sk skOf at h; split at h <;> first | (cases h; assumption) | cases h
theorem sk_arr {n : Nat} {e : TypeId} (h : sk P t = .arr n e) : P.underlying t = some (.array n e) := by
  unfold sk skOf at h; split at h <;> first | (cases h; assumption) | cases h
end sk

/-! ### two operands -/
def abinI (op : BinOp) (k : IntKind) (a : Int) (k' : IntKind) (b : Int) : Option AV :=
  match op with
  | .shl => if b < 0 then none else some (.int k (k.wrap (a * 2 ^ (min b.toNat k.bits))))
  | .shr => if b < 0 then none else some (.int k (a.fdiv (2 ^ (min b.toNat k.bits))))
  | op => if k ≠ k' then none else
    match op with
    | .add => some (.int k (k.wrap (a + b)))
    | .sub => some (.int k (k.wrap (a - b)))
    | .mul => some (.int k (k.wrap (a * b)))
    | .quo => if b = 0 then none else some (.int k (k.wrap (a.tdiv b)))
    | .rem => if b = 0 then none else some (.int k (a.tmod b))
    | .and => some (.int k (k.wrap ((BitVec.ofInt k.bits a &&& BitVec.ofInt k.bits b).toNat)))
    | .or => some (.int k (k.wrap ((BitVec.ofInt k.bits a ||| BitVec.ofInt k.bits b).toNat)))
    | .xor => some (.int k (k.wrap ((BitVec.ofInt k.bits a ^^^ BitVec.ofInt k.bits b).toNat)))
    | .andNot => some (.int k (k.wrap ((BitVec.ofInt k.bits a &&& ~~~BitVec.ofInt k.bits b).toNat)))
    | .eql => some (.bool (a == b))
    | .neq => some (.bool (a != b))
    | .lss => some (.bool (decide (a < b)))
    | .leq => some (.bool (decide (a ≤ b)))
    | .gtr => some (.bool (decide (b < a)))
    | .geq => some (.bool (decide (b ≤ a)))
    | _ => none
def abinS (op : BinOp) (a b : List UInt8) : Option AV :=
  match op with
  | .add => if a.length + b.length ≤ maxLen then some (.str (a ++ b)) else none
  | .eql => some (.bool (a == b))
  | .neq => some (.bool (!(a == b)))
  | .lss => some (.bool (Op.bytesLess a b))
  | .leq => some (.bool (Op.bytesLess a b || a == b))
  | .gtr => some (.bool (!(Op.bytesLess a b || a == b)))
  | .geq => some (.bool (!(Op.bytesLess a b)))
  | _ => none
def aeq (op : BinOp) (r : Bool) : Option AV :=
  match op with
  | .eql => some (.bool r)
  | .neq => some (.bool (!r))
  | _ => none
/-- may it be the nil slice? -/
def isNil : Gh → List AV → Bool
  | .none, [] => true
  | _, _ => false
def abin (P : Program) (op : BinOp) (t : TypeId) (x y : AV) : Option AV :=
  match x, y with
  | .int k a, .int k' b => abinI op k a k' b
  | .str a, .str b => abinS op a b
  | .bool a, .bool b => if sk P t = .bool then aeq op (a == b) else none
  | .nil, .nil => if (el P t).isSome then aeq op true else none
  | .nil, .sl g xs _ => if (el P t).isSome = true ∧ isNil g xs = false then aeq op false else none
  | .sl g xs _, .nil => if (el P t).isSome = true ∧ isNil g xs = false then aeq op false else none
  | .fn .., .nilfn => if sk P t = .fn then aeq op false else none
  | .nilfn, .fn .. => if sk P t = .fn then aeq op false else none
  | .nilfn, .nilfn => if sk P t = .fn then aeq op true else none
  | .nilptr, .nilptr => (match sk P t with | .ptr _ => aeq op true | _ => none)
  | .nilptr, .ptr .. => (match sk P t with | .ptr _ => aeq op false | _ => none)
  | .nilptr, .rp .. => (match sk P t with | .ptr _ => aeq op false | _ => none)
  | .ptr .., .nilptr => (match sk P t with | .ptr _ => aeq op false | _ => none)
  | .rp .., .nilptr => (match sk P t with | .ptr _ => aeq op false | _ => none)
  | _, _ => none

theorem toList_mk (s : List UInt8) : (ByteArray.mk (Array.mk s)).toList = s := by rw [ByteArray.toList_eq]


theorem eq_bool {P : Program} {w : World} {t : TypeId} (h : P.underlying t = some .bool) (a b : Bool) : (Op.equal t (.bool a) (.bool b)).run P w = .ok (a == b) w := by
  have key : ∀ d, (Op.equalIn (d + 1) t (.bool a) (.bool b)).run P w = .ok (a == b) w := fun d => by simp [Op.equalIn, run_underlying h]
  exact key 9999
theorem eq_nn {P : Program} {w : World} {t e : TypeId} (h : P.underlying t = some (.slice e))  : (Op.equal t (.slice none 0 0) (.slice none 0 0)).run P w = .ok true w := by
  have key : ∀ d, (Op.equalIn (d + 1) t (.slice none 0 0) (.slice none 0 0)).run P w = .ok true w := fun d => by simp [Op.equalIn, run_underlying h]
  exact key 9999
theorem eq_ns {P : Program} {w : World} {t e : TypeId} (h : P.underlying t = some (.slice e)) (a : Addr) (n c : Nat) : (Op.equal t (.slice none 0 0) (.slice (some a) n c)).run P w = .ok false w := by
  have key : ∀ d, (Op.equalIn (d + 1) t (.slice none 0 0) (.slice (some a) n c)).run P w = .ok false w := fun d => by simp [Op.equalIn, run_underlying h]
  exact key 9999
theorem eq_sn {P : Program} {w : World} {t e : TypeId} (h : P.underlying t = some (.slice e)) (a : Addr) (n c : Nat) : (Op.equal t (.slice (some a) n c) (.slice none 0 0)).run P w = .ok false w := by
  have key : ∀ d, (Op.equalIn (d + 1) t (.slice (some a) n c) (.slice none 0 0)).run P w = .ok false w := fun d => by simp [Op.equalIn, run_underlying h]
  exact key 9999
theorem eq_fn {P : Program} {w : World} {t : TypeId} (h : sk P t = .fn) (f : Fn) (a b : Array Value) : (Op.equal t (.func f a b) .nilFunc).run P w = .ok false w := by
  obtain ⟨x, y, z, h⟩ := sk_fn h
  have key : ∀ d, (Op.equalIn (d + 1) t (.func f a b) .nilFunc).run P w = .ok false w := fun d => by simp [Op.equalIn, run_underlying h]
  exact key 9999
theorem eq_nf {P : Program} {w : World} {t : TypeId} (h : sk P t = .fn) (f : Fn) (a b : Array Value) : (Op.equal t .nilFunc (.func f a b)).run P w = .ok false w := by
  obtain ⟨x, y, z, h⟩ := sk_fn h
  have key : ∀ d, (Op.equalIn (d + 1) t .nilFunc (.func f a b)).run P w = .ok false w := fun d => by simp [Op.equalIn, run_underlying h]
  exact key 9999
theorem eq_ff {P : Program} {w : World} {t : TypeId} (h : sk P t = .fn)  : (Op.equal t .nilFunc .nilFunc).run P w = .ok true w := by
  obtain ⟨x, y, z, h⟩ := sk_fn h
  have key : ∀ d, (Op.equalIn (d + 1) t .nilFunc .nilFunc).run P w = .ok true w := fun d => by simp [Op.equalIn, run_underlying h]
  exact key 9999
theorem eq_p0 {P : Program} {w : World} {t e : TypeId} (h : P.underlying t = some (.pointer e)) (b : Option Addr) : (Op.equal t (.pointer none) (.pointer b)).run P w = .ok b.isNone w := by
  have key : ∀ d, (Op.equalIn (d + 1) t (.pointer none) (.pointer b)).run P w = .ok b.isNone w := fun d => by simp [Op.equalIn, run_underlying h]
  exact key 9999
theorem eq_p1 {P : Program} {w : World} {t e : TypeId} (h : P.underlying t = some (.pointer e)) (a : Addr) : (Op.equal t (.pointer (some a)) (.pointer none)).run P w = .ok false w := by
  have key : ∀ d, (Op.equalIn (d + 1) t (.pointer (some a)) (.pointer none)).run P w = .ok false w := fun d => by simp [Op.equalIn, run_underlying h]
  exact key 9999

/-- an operation on two values of which only '==' and '!=' are known -/
theorem aeq_sound {P : Program} {K : Ctx} {w : World} {op : BinOp} {t : TypeId} {v u : Value} {b : Bool} {r : AV} (h : aeq op b = some r) (ox oy : Operand)
    (heq : (Op.equal t v u).run P w = .ok b w)
    (hg : (eqGuard op t ox oy v u).run P w = .ok () w)
    (h1 : binOp .eql t v u = (do pure (.bool (← Op.equal t v u)))) (h2 : binOp .neq t v u = (do pure (.bool (!(← Op.equal t v u))))) :
    ∃ z, (do eqGuard op t ox oy v u; binOp op t v u : Sem Value).run P w = .ok z w ∧ VR K r z := by
  simp only [Sem.run_bind, hg]
  unfold aeq at h
  cases op <;> simp only [Option.some.injEq] at h <;> first | cases h | skip
  · exact ⟨.bool b, by rw [h1]; simp [Sem.run_bind, heq], .bool b⟩
  · exact ⟨.bool (!b), by rw [h2]; simp [Sem.run_bind, heq], .bool (!b)⟩

theorem abin_sound {P : Program} {K : Ctx} {w : World} {op : BinOp} {t : TypeId} {x y r : AV} (h : abin P op t x y = some r) {v u : Value} (hv : VR K x v) (hu : VR K y u) (ox oy : Operand) :
    ∃ z, (do eqGuard op t ox oy v u; binOp op t v u : Sem Value).run P w = .ok z w ∧ VR K r z := by
  unfold abin at h
  split at h
  · -- ints
    rename_i k a k' b
    rw [VR.int_iff] at hv hu; subst hv hu
    have hg : (eqGuard op t ox oy (.int k a) (.int k' b)).run P w = .ok () w := by cases op <;> rfl
    simp only [Sem.run_bind, hg]
    unfold abinI at h
    cases op
    case shl =>
      simp only at h
      split at h
      · cases h
      · rename_i hb
        simp only [Option.some.injEq] at h; subst h
        exact ⟨_, by simp [binOp, Op.shift, hb], .int _ _⟩
    case shr =>
      simp only at h
      split at h
      · cases h
      · rename_i hb
        simp only [Option.some.injEq] at h; subst h
        exact ⟨_, by simp [binOp, Op.shift, hb], .int _ _⟩
    all_goals
      simp only at h
      split at h
      · cases h
      rename_i hk
      simp only [ne_eq, Decidable.not_not] at hk
      subst hk
      first
      | (split at h
         · cases h
         · rename_i hb
           simp only [Option.some.injEq] at h; subst h
           exact ⟨_, by simp [binOp, Op.intDiv, hb], .int _ _⟩)
      | (simp only [Option.some.injEq] at h; subst h
         first
         | (refine ⟨_, ?_, .int _ _⟩; simp only [binOp, ne_eq, not_true_eq_false, if_false]; rfl)
         | (refine ⟨_, ?_, .bool _⟩; simp only [binOp, ne_eq, not_true_eq_false, if_false]; rfl))
      | cases h
  · -- strings
    rename_i a b
    rw [VR.str_iff] at hv hu; subst hv hu
    have hg : (eqGuard op t ox oy (.string ⟨⟨a⟩⟩) (.string ⟨⟨b⟩⟩)).run P w = .ok () w := by cases op <;> rfl
    simp only [Sem.run_bind, hg]
    unfold abinS at h
    cases op <;> simp only [Option.some.injEq] at h <;> first | cases h | skip
    case add =>
      split at h
      · rename_i hl
        simp only [Option.some.injEq] at h; subst h
        have hmax : ¬ (((a.length + b.length : Nat) : Int) > IntKind.i64.max) := by
          have : IntKind.i64.max = 9223372036854775807 := by decide
          unfold maxLen at hl; omega
        have hsz : ∀ l : List UInt8, (ByteArray.mk (Array.mk l)).size = l.length := fun l => rfl
        refine ⟨.string (⟨⟨a⟩⟩ ++ ⟨⟨b⟩⟩), by simp only [binOp, Op.stringOp, hsz]; rw [if_neg hmax]; rfl, ?_⟩
        have : (ByteArray.mk (Array.mk a) ++ ByteArray.mk (Array.mk b)) = ByteArray.mk (Array.mk (a ++ b)) := by
          apply ByteArray.ext
          rw [ByteArray.data_append]
          simp
        rw [this]; exact .str _
      · cases h
    all_goals exact ⟨_, by simp [binOp, Op.stringOp, toList_mk], .bool _⟩
  · rename_i a b
    rw [VR.bool_iff] at hv hu; subst hv hu
    split at h
    · rename_i hs
      exact aeq_sound h ox oy (eq_bool (sk_bool hs) a b) (by cases op <;> rfl) rfl rfl
    · cases h
  · rw [VR.nil_iff] at hv hu; subst hv hu
    split at h
    · rename_i hs
      obtain ⟨e, he⟩ := Option.isSome_iff_exists.1 hs
      exact aeq_sound h ox oy (eq_nn (run_el he)) (by cases op <;> rfl) rfl rfl
    · cases h
  · rw [VR.nil_iff] at hv; subst hv
    split at h
    · rename_i hs
      obtain ⟨hs, hnn⟩ := hs
      obtain ⟨e, he⟩ := Option.isSome_iff_exists.1 hs
      cases hu
      case sl0 => cases hnn
      exact aeq_sound h ox oy (eq_ns (run_el he) _ _ _) (by cases op <;> rfl) rfl rfl
    · cases h
  · rw [VR.nil_iff] at hu; subst hu
    split at h
    · rename_i hs
      obtain ⟨hs, hnn⟩ := hs
      obtain ⟨e, he⟩ := Option.isSome_iff_exists.1 hs
      cases hv
      case sl0 => cases hnn
      exact aeq_sound h ox oy (eq_sn (run_el he) _ _ _) (by cases op <;> rfl) rfl rfl
    · cases h
  · rw [VR.nilfn_iff] at hu; subst hu
    split at h
    · rename_i hs; cases hv
      exact aeq_sound h ox oy (eq_fn hs _ _ _) (by cases op <;> rfl) rfl rfl
    · cases h
  · rw [VR.nilfn_iff] at hv; subst hv
    split at h
    · rename_i hs; cases hu
      exact aeq_sound h ox oy (eq_nf hs _ _ _) (by cases op <;> rfl) rfl rfl
    · cases h
  · rw [VR.nilfn_iff] at hv hu; subst hv hu
    split at h
    · rename_i hs
      exact aeq_sound h ox oy (eq_ff hs) (by cases op <;> rfl) rfl rfl
    · cases h
  · rw [VR.nilptr_iff] at hv hu; subst hv hu
    split at h
    · rename_i e hs
      exact aeq_sound h ox oy (eq_p0 (sk_ptr hs) _) (by cases op <;> rfl) rfl rfl
    · cases h
  · rw [VR.nilptr_iff] at hv; subst hv
    split at h
    · rename_i e hs; cases hu
      exact aeq_sound h ox oy (eq_p0 (sk_ptr hs) _) (by cases op <;> rfl) rfl rfl
    · cases h
  · rw [VR.nilptr_iff] at hv; subst hv
    split at h
    · rename_i e hs; cases hu
      exact aeq_sound h ox oy (eq_p0 (sk_ptr hs) _) (by cases op <;> rfl) rfl rfl
    · cases h
  · rw [VR.nilptr_iff] at hu; subst hu
    split at h
    · rename_i e hs; cases hv
      exact aeq_sound h ox oy (eq_p1 (sk_ptr hs) _) (by cases op <;> rfl) rfl rfl
    · cases h
  · rw [VR.nilptr_iff] at hu; subst hu
    split at h
    · rename_i e hs; cases hv
      exact aeq_sound h ox oy (eq_p1 (sk_ptr hs) _) (by cases op <;> rfl) rfl rfl
    · cases h
  · cases h

/-! ### one operand, conversions -/
def aun (op : UnOp) (x : AV) : Option AV :=
  match op, x with
  | .neg, .int k n => some (.int k (k.wrap (0 - n)))
  | .not, .bool b => some (.bool (!b))
  | _, _ => none
theorem aun_sound {P : Program} {K : Ctx} {w : World} {op : UnOp} {x r : AV} (h : aun op x = some r) {v : Value} (hv : VR K x v) :
    ∃ z, (Op.unary op v).run P w = .ok z w ∧ VR K r z := by
  unfold aun at h
  split at h
  · rw [VR.int_iff] at hv; subst hv
    simp only [Option.some.injEq] at h; subst h
    exact ⟨_, by simp only [Op.unary, Op.intArith]; rfl, .int _ _⟩
  · rw [VR.bool_iff] at hv; subst hv
    simp only [Option.some.injEq] at h; subst h
    exact ⟨_, by simp only [Op.unary]; rfl, .bool _⟩
  · cases h

def aconv (P : Program) (s d : TypeId) (x : AV) : Option AV :=
  match x, sk P d with
  | .int _ n, .int k => if (P.underlying s).isSome then some (.int k (k.wrap n)) else none
  | .str s', .str => if (P.underlying s).isSome then some (.str s') else none
  | _, _ => none
theorem aconv_sound {P : Program} {K : Ctx} {w : World} {s d : TypeId} {x r : AV} (h : aconv P s d x = some r) {v : Value} (hv : VR K x v) :
    ∃ z, (convert s d v).run P w = .ok z w ∧ VR K r z := by
  unfold aconv at h
  split at h
  · rename_i n k hd
    rw [VR.int_iff] at hv; subst hv
    split at h
    · rename_i hs
      obtain ⟨u, hu⟩ := Option.isSome_iff_exists.1 hs
      simp only [Option.some.injEq] at h; subst h
      refine ⟨.int k (k.wrap n), ?_, .int _ _⟩
      unfold convert
      simp only [Sem.run_bind, run_underlying hu, run_underlying (sk_int hd)]
      cases u <;> rfl
    · cases h
  · rename_i s' hd
    rw [VR.str_iff] at hv; subst hv
    split at h
    · rename_i hs
      obtain ⟨u, hu⟩ := Option.isSome_iff_exists.1 hs
      simp only [Option.some.injEq] at h; subst h
      refine ⟨.string ⟨⟨s'⟩⟩, ?_, .str _⟩
      unfold convert
      simp only [Sem.run_bind, run_underlying hu, run_underlying (sk_str hd)]
      cases u <;> rfl
    · cases h
  · cases h

/-! ### indexes of strings and arrays, fields of values, pieces -/
def aindex (P : Program) (t : TypeId) (x i : AV) : Option AV :=
  match x, i with
  | .str s, .int _ i => if sk P t = .str then (if 0 ≤ i then (match s[i.toNat]? with | some c => some (.int .u8 c.toNat) | none => none) else none) else none
  | _, _ => none
theorem aindex_sound {P : Program} {K : Ctx} {w : World} {t : TypeId} {x i r : AV} (h : aindex P t x i = some r) {v u : Value} (hv : VR K x v) (hu : VR K i u) :
    ∃ z, (Instr.index t v u).run P w = .ok z w ∧ VR K r z := by
  unfold aindex at h
  split at h
  · rename_i s k i
    rw [VR.str_iff] at hv; rw [VR.int_iff] at hu; subst hv hu
    split at h
    · rename_i hs
      split at h
      · rename_i h0
        split at h
        · rename_i c hc
          simp only [Option.some.injEq] at h; subst h
          refine ⟨.int .u8 c.toNat, ?_, .int _ _⟩
          have : (ByteArray.mk (Array.mk s))[i.toNat]? = some c := by
            obtain ⟨hlt, hcc⟩ := List.getElem?_eq_some_iff.1 hc
            have hlt' : i.toNat < (ByteArray.mk (Array.mk s)).size := hlt
            rw [getElem?_pos (ByteArray.mk (Array.mk s)) i.toNat hlt']
            exact congrArg some hcc
          unfold Instr.index
          simp [asIntOf, run_underlying (sk_str hs), h0, this]
        · cases h
      · cases h
    · cases h
  · cases h

def aextract (x : AV) (i : Nat) : Option AV :=
  match x with
  | .tup vs => vs[i]?
  | _ => none
theorem aextract_sound {P : Program} {K : Ctx} {w : World} {x r : AV} {i : Nat} (h : aextract x i = some r) {v : Value} (hv : VR K x v) :
    ∃ z, (Instr.extract v i).run P w = .ok z w ∧ VR K r z := by
  unfold aextract at h
  split at h
  · rename_i vs
    obtain ⟨hi, rfl⟩ := List.getElem?_eq_some_iff.1 h
    cases hv with
    | tup _ us hl hv =>
      have hi' : i < us.size := by omega
      refine ⟨us[i], ?_, by have := hv i hi; simpa [Array.getD, hi'] using this⟩
      unfold Instr.extract
      simp [hi']
  · cases h

def afieldv (P : Program) (t : TypeId) (x : AV) (i : Nat) : Option AV :=
  match x, fld P t i with
  | .agg cs, some (off, ag, n) => rd ag n (cs.drop off)
  | _, _ => none
theorem afieldv_sound {P : Program} {K : Ctx} {w : World} {t : TypeId} {x r : AV} {i : Nat} (h : afieldv P t x i = some r) {v : Value} (hv : VR K x v) :
    ∃ z, (Instr.field t v i).run P w = .ok z w ∧ VR K r z := by
  unfold afieldv at h
  split at h
  · rename_i cs off ag n hf
    cases hv with
    | agg _ vs hl h1 hvv =>
      unfold fld at hf
      split at hf
      · rename_i fs hu
        split at hf
        · rename_i f hfi
          cases htk : tk P f.type with
          | none => rw [htk] at hf; cases hf
          | some x =>
            rw [htk] at hf
            simp only [Option.map_some, Option.some.injEq, Prod.mk.injEq] at hf
            obtain ⟨rfl, hx⟩ := hf
            subst hx
            obtain ⟨ha, hs, _⟩ := run_tk (b := ag) (n := n) htk w
            unfold rd at h
            cases ag with
            | true =>
              simp only [if_true] at h
              split at h
              · rename_i hn
                simp only [Option.some.injEq] at h; subst h
                refine ⟨.agg (vs.extract f.offset (f.offset + n)), ?_, .agg _ _ (by simp [hl]; omega) (fun c hc => h1 c (List.mem_of_mem_drop (List.mem_of_mem_take hc))) (fun j hj => ?_)⟩
                · unfold Instr.field
                  simp [run_underlying hu, hfi, asAgg, part, ha, hs]
                · have hj' : f.offset + j < cs.length := by simp at hj; omega
                  have hjn : j < n := by simp at hj; omega
                  have := hvv _ hj'
                  have hj2 : f.offset + j < vs.size := by omega
                  have hj3 : j < min (f.offset + n) vs.size - f.offset := by omega
                  simpa [Array.getD, hj2, hj3] using this
              · cases h
            | false =>
              simp only [Bool.false_eq_true, if_false] at h
              have hlt : f.offset < cs.length := by
                rcases Nat.lt_or_ge f.offset cs.length with h' | h'
                · exact h'
                · rw [List.drop_eq_nil_of_le h'] at h; cases h
              have hlt' : f.offset < vs.size := by omega
              rw [List.head?_drop, List.getElem?_eq_getElem hlt, Option.some.injEq] at h
              subst h
              refine ⟨vs[f.offset], ?_, by have := hvv _ hlt; simpa [Array.getD, hlt'] using this⟩
              unfold Instr.field
              simp [run_underlying hu, hfi, asAgg, part, ha, hlt']
        · cases hf
      · cases hf
  · cases h
end Go.Av
