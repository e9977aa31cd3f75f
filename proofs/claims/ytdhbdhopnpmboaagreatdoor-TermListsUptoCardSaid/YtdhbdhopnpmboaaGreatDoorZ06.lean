/- A drawn row whose ways meet again: what it yields is told once. -/
import Derived.Test.YtdhbdhopnpmboaaGreatDoorZ05
import Derived.Test.YtdhbdhopnpmboaaGreatDoorChecked
import Derived.KernelRfl
import Derived.Shelf.Strings.BuilderX
import Derived.Lib.Strings
import Derived.Lib.Slices
import Derived.Lib.Walk
import Derived.Lib.Builder
import Derived.Lib.AppendStr
import Derived.Lib.UnsafeStr
import Derived.Lib.MakeNoZero
import Derived.Laws.Externs
import Derived.Laws.Tables
set_option linter.unusedVariables false
set_option linter.unusedSimpArgs false
set_option linter.defProp false
namespace Go.Av
open Go Go.RowKit
section fl
variable {P : Program} {G : Nat -> AV} {ops rest : List Oper} {σ0 σ : AS} {R : Env -> AS -> Prop} {e : Env} {d : Option Tmp} {ty : TypeId} {pos : String} {af : Array Edge} {g : Option (Nat × Bool)} {av : List Nat} {K : AV -> AS -> List Nat -> Prop}
def storeW (P : Program) (σ : AS) (av : List Nat) (t : TypeId) (p x : AV) (K : AV -> AS -> List Nat -> Prop) (_ : Dum σ) (_ : Dum K) : Prop :=
 ∃ b off z0 z, p = .ptr b off /\ b ∈ av /\ σ.box b = some z0 /\ astore P σ t (.ptr b off) x = some (σ.setBox b z) /\ K .undef (σ.setBox b z) (av.filter fun c => decide (c ≠ b))
theorem hs_nil : awpHeadS P G ops σ0 R [] e σ av = R e σ := nr rfl
theorem hs_cons {o : Oper} : awpHeadS P G ops σ0 R (o :: rest) e σ av =
   gW (awanted ops e o.guard) (hopS P G o e σ0 σ av fun r σ' av' => awpHeadS P G ops σ0 R rest (e.upd o.dst r) σ' av') (awpHeadS P G ops σ0 R rest (e.upd o.dst (.tup [])) σ av) ⟨⟩ ⟨⟩ := nr rfl
def storeX (P : Program) (σ0 σ : AS) (av : List Nat) (t : TypeId) (p x : AV) (K : AV -> AS -> List Nat -> Prop) (_ : Dum σ0) (_ : Dum σ) (_ : Dum K) : Prop := storeW P σ av t p x K ⟨⟩ ⟨⟩ \/ (sameSt P σ0 t p x /\ K .undef σ av)
theorem hs_store {t : TypeId} {p x : Operand} : hopS P G ⟨d, .store t p x, ty, pos, af, g⟩ e σ0 σ av K = storeX P σ0 σ av t (ev G e p) (ev G e x) K ⟨⟩ ⟨⟩ ⟨⟩ := nr rfl
theorem storeX_w {σ0 σ : AS} {av : List Nat} {t : TypeId} {p x : AV} {K : AV -> AS -> List Nat -> Prop} {d : Dum σ0} {d' : Dum σ} {d2 : Dum K} (h : storeW P σ av t p x K ⟨⟩ ⟨⟩) : storeX P σ0 σ av t p x K d d' d2 := .inl h
def sameW (P : Program) (σ0 : AS) (t : TypeId) (p x : AV) (F : Prop) (_ : Dum σ0) (_ : Dum F) : Prop := sameSt P σ0 t p x /\ F
theorem h_store {K : AV -> AS -> Prop} {t : TypeId} {p x : Operand} : hop P G ⟨d, .store t p x, ty, pos, af, g⟩ e σ0 σ K = sameW P σ0 t (ev G e p) (ev G e x) (K .undef σ) ⟨⟩ ⟨⟩ := nr rfl
theorem same_st {σ0 : AS} {t : TypeId} {b off n : Nat} {ag : Bool} {x : AV} {F : Prop} {d : Dum σ0} {d' : Dum F} {z : List AV} (hk : tk P t = some (ag, n)) (hb : σ0.box b = some z) (hx : isv x = true) (hl : (flat x).length = n) (ho : off + n <= z.length)
  (he : z.take off ++ flat x ++ z.drop (off + n) = z) (h : F) : sameW P σ0 t (.ptr b off) x F d d' := by
 refine ⟨⟨b, off, z, rfl, hb, ?_⟩, h⟩
 unfold astore
 simp only [hk, hb]
 rw [if_pos ⟨hx, hl, ho⟩, he]
theorem hs_move {x : Operand} : hopS P G ⟨d, .move x, ty, pos, af, g⟩ e σ0 σ av K = hop P G ⟨d, .move x, ty, pos, af, g⟩ e σ0 σ (fun r σ' => K r σ' av) := nr rfl
theorem hs_assign {x : Operand} : hopS P G ⟨d, .assign x, ty, pos, af, g⟩ e σ0 σ av K = hop P G ⟨d, .assign x, ty, pos, af, g⟩ e σ0 σ (fun r σ' => K r σ' av) := nr rfl
theorem hs_pick {a b c : Operand} : hopS P G ⟨d, .pick a b c, ty, pos, af, g⟩ e σ0 σ av K = hop P G ⟨d, .pick a b c, ty, pos, af, g⟩ e σ0 σ (fun r σ' => K r σ' av) := nr rfl
theorem hs_alloc {E : TypeId} : hopS P G ⟨d, .alloc E, ty, pos, af, g⟩ e σ0 σ av K = hop P G ⟨d, .alloc E, ty, pos, af, g⟩ e σ0 σ (fun r σ' => K r σ' av) := nr rfl
theorem hs_box {E : TypeId} {x : Operand} : hopS P G ⟨d, .box E x, ty, pos, af, g⟩ e σ0 σ av K = hop P G ⟨d, .box E x, ty, pos, af, g⟩ e σ0 σ (fun r σ' => K r σ' av) := nr rfl
theorem hs_build {t : TypeId} {ps : Array (Nat × Operand)} : hopS P G ⟨d, .build t ps, ty, pos, af, g⟩ e σ0 σ av K = hop P G ⟨d, .build t ps, ty, pos, af, g⟩ e σ0 σ (fun r σ' => K r σ' av) := nr rfl
theorem hs_buildSlice {t n : Nat} {ps : Array (Nat × Operand)} : hopS P G ⟨d, .buildSlice t n ps, ty, pos, af, g⟩ e σ0 σ av K = hop P G ⟨d, .buildSlice t n ps, ty, pos, af, g⟩ e σ0 σ (fun r σ' => K r σ' av) := nr rfl
theorem hs_load {t : TypeId} {x : Operand} : hopS P G ⟨d, .load t x, ty, pos, af, g⟩ e σ0 σ av K = hop P G ⟨d, .load t x, ty, pos, af, g⟩ e σ0 σ (fun r σ' => K r σ' av) := nr rfl
theorem hs_nilCheck {x : Operand} : hopS P G ⟨d, .nilCheck x, ty, pos, af, g⟩ e σ0 σ av K = hop P G ⟨d, .nilCheck x, ty, pos, af, g⟩ e σ0 σ (fun r σ' => K r σ' av) := nr rfl
theorem hs_binOp {op : BinOp} {t yt : TypeId} {x y : Operand} : hopS P G ⟨d, .binOp op t x y yt, ty, pos, af, g⟩ e σ0 σ av K = hop P G ⟨d, .binOp op t x y yt, ty, pos, af, g⟩ e σ0 σ (fun r σ' => K r σ' av) := nr rfl
theorem hs_unOp {op : UnOp} {t : TypeId} {x : Operand} : hopS P G ⟨d, .unOp op t x, ty, pos, af, g⟩ e σ0 σ av K = hop P G ⟨d, .unOp op t x, ty, pos, af, g⟩ e σ0 σ (fun r σ' => K r σ' av) := nr rfl
theorem hs_convert {s t : TypeId} {x : Operand} : hopS P G ⟨d, .convert s t x, ty, pos, af, g⟩ e σ0 σ av K = hop P G ⟨d, .convert s t x, ty, pos, af, g⟩ e σ0 σ (fun r σ' => K r σ' av) := nr rfl
theorem hs_makeFunc {f : FuncId} {caps : Array Operand} : hopS P G ⟨d, .makeFunc (.func f) #[] caps, ty, pos, af, g⟩ e σ0 σ av K = hop P G ⟨d, .makeFunc (.func f) #[] caps, ty, pos, af, g⟩ e σ0 σ (fun r σ' => K r σ' av) := nr rfl
theorem hs_slice {t : TypeId} {x : Operand} {lo hi : Option Operand} : hopS P G ⟨d, .slice t x lo hi none, ty, pos, af, g⟩ e σ0 σ av K = hop P G ⟨d, .slice t x lo hi none, ty, pos, af, g⟩ e σ0 σ (fun r σ' => K r σ' av) := nr rfl
theorem hs_fieldAddr {t : TypeId} {x : Operand} {i : Nat} : hopS P G ⟨d, .fieldAddr t x i, ty, pos, af, g⟩ e σ0 σ av K = hop P G ⟨d, .fieldAddr t x i, ty, pos, af, g⟩ e σ0 σ (fun r σ' => K r σ' av) := nr rfl
theorem hs_field {t : TypeId} {x : Operand} {i : Nat} : hopS P G ⟨d, .field t x i, ty, pos, af, g⟩ e σ0 σ av K = hop P G ⟨d, .field t x i, ty, pos, af, g⟩ e σ0 σ (fun r σ' => K r σ' av) := nr rfl
theorem hs_indexAddr {t : TypeId} {x i : Operand} : hopS P G ⟨d, .indexAddr t x i, ty, pos, af, g⟩ e σ0 σ av K = hop P G ⟨d, .indexAddr t x i, ty, pos, af, g⟩ e σ0 σ (fun r σ' => K r σ' av) := nr rfl
theorem hs_index {t : TypeId} {x i : Operand} : hopS P G ⟨d, .index t x i, ty, pos, af, g⟩ e σ0 σ av K = hop P G ⟨d, .index t x i, ty, pos, af, g⟩ e σ0 σ (fun r σ' => K r σ' av) := nr rfl
theorem hs_extract {x : Operand} {i : Nat} : hopS P G ⟨d, .extract x i, ty, pos, af, g⟩ e σ0 σ av K = hop P G ⟨d, .extract x i, ty, pos, af, g⟩ e σ0 σ (fun r σ' => K r σ' av) := nr rfl
theorem hs_call {f : Operand} {args : Array Operand} {ts : Array TypeId} : hopS P G ⟨d, .call ⟨.value f, args, ts⟩, ty, pos, af, g⟩ e σ0 σ av K = hop P G ⟨d, .call ⟨.value f, args, ts⟩, ty, pos, af, g⟩ e σ0 σ (fun r σ' => K r σ' av) := nr rfl
theorem hs_len {args : Array Operand} {ts : Array TypeId} : hopS P G ⟨d, .call ⟨.builtin .len, args, ts⟩, ty, pos, af, g⟩ e σ0 σ av K = hop P G ⟨d, .call ⟨.builtin .len, args, ts⟩, ty, pos, af, g⟩ e σ0 σ (fun r σ' => K r σ' av) := nr rfl
theorem hs_cap {args : Array Operand} {ts : Array TypeId} : hopS P G ⟨d, .call ⟨.builtin .cap, args, ts⟩, ty, pos, af, g⟩ e σ0 σ av K = hop P G ⟨d, .call ⟨.builtin .cap, args, ts⟩, ty, pos, af, g⟩ e σ0 σ (fun r σ' => K r σ' av) := nr rfl
theorem hs_usd {args : Array Operand} {ts : Array TypeId} : hopS P G ⟨d, .call ⟨.builtin .unsafeSliceData, args, ts⟩, ty, pos, af, g⟩ e σ0 σ av K = hop P G ⟨d, .call ⟨.builtin .unsafeSliceData, args, ts⟩, ty, pos, af, g⟩ e σ0 σ (fun r σ' => K r σ' av) := nr rfl
theorem hs_max {args : Array Operand} {ts : Array TypeId} : hopS P G ⟨d, .call ⟨.builtin .max, args, ts⟩, ty, pos, af, g⟩ e σ0 σ av K = hop P G ⟨d, .call ⟨.builtin .max, args, ts⟩, ty, pos, af, g⟩ e σ0 σ (fun r σ' => K r σ' av) := nr rfl
theorem hs_min {args : Array Operand} {ts : Array TypeId} : hopS P G ⟨d, .call ⟨.builtin .min, args, ts⟩, ty, pos, af, g⟩ e σ0 σ av K = hop P G ⟨d, .call ⟨.builtin .min, args, ts⟩, ty, pos, af, g⟩ e σ0 σ (fun r σ' => K r σ' av) := nr rfl
theorem hs_makeSlice {t : TypeId} {x y : Operand} : hopS P G ⟨d, .makeSlice t x y, ty, pos, af, g⟩ e σ0 σ av K = hop P G ⟨d, .makeSlice t x y, ty, pos, af, g⟩ e σ0 σ (fun r σ' => K r σ' av) := nr rfl
def stw (m : Bool) (k : Option (Bool × Nat)) (σ : AS) (bx : Option (List AV)) (b off : Nat) (x : AV) (K : AS -> Prop) : Prop := match m, k, bx with
 | true, some (_, n), some cs => isv x = true /\ (flat x).length = n /\ off + n <= cs.length /\ K (σ.setBox b (cs.take off ++ flat x ++ cs.drop (off + n)))
 | _, _, _ => False
theorem stw_some {ag : Bool} {n : Nat} {cs : List AV} {b off : Nat} {x : AV} {F : AS -> Prop} : stw true (some (ag, n)) σ (some cs) b off x F = (isv x = true /\ (flat x).length = n /\ off + n <= cs.length /\ F (σ.setBox b (cs.take off ++ flat x ++ cs.drop (off + n)))) := nr rfl
theorem storeW_eq {t : TypeId} {b off : Nat} {x : AV} {d : Dum σ} {d' : Dum K} : storeW P σ av t (.ptr b off) x K d d' = stw (decide (b ∈ av)) (tk P t) σ (σ.box b) b off x (fun s => K .undef s (av.filter fun c => decide (c ≠ b))) := by
 apply propext
 constructor
 ·rintro ⟨b', off', z0, z, h1, h2, h3, h4, h5⟩
  simp only [AV.ptr.injEq] at h1
  obtain ⟨rfl, rfl⟩ := h1
  have h0 : decide (b ∈ av) = true := by simpa using h2
  rw [h0, h3]
  rw [astore_ptr, h3] at h4
  unfold stw
  unfold stk at h4
  cases hk : tk P t with
  | none => rw [hk] at h4; cases h4
  | some y =>
   obtain ⟨ag, n⟩ := y
   rw [hk] at h4
   simp only at h4 ⊢
   split at h4
   ·rename_i hc
    simp only [Option.some.injEq] at h4
    have := setBox_inj h4
    rw [this]
    exact ⟨hc.1, hc.2.1, hc.2.2, h5⟩
   ·cases h4
 ·intro h
  unfold stw at h
  split at h
  ·rename_i ag n cs hm hk hb
   obtain ⟨g1, g2, g3, g4⟩ := h
   refine ⟨b, off, cs, _, rfl, by simpa using hm, hb, ?_, g4⟩
   rw [astore_ptr, hb, hk]
   unfold stk
   exact if_pos ⟨g1, g2, g3⟩
  ·exact h.elim
theorem AS.delBox_le (σ : AS) (b : Nat) : (σ.delBox b).le σ := ⟨fun i cs hi => by
 have hi' : (if i = b then none else σ.box i) = some cs := hi
 split at hi'
 ·cases hi'
 ·exact hi', fun _ _ h => h, fun _ _ h => h⟩
theorem draw_float1 {l : List Oper} {d : Dum l.toArray} {d' : Dum R} {d2 : Dum e} {d3 : Dum σ} (n b : Nat) {z : List AV} (hn : drawB l.toArray n = true) (hb : σ.box b = some z)
  (h : awpHeadS P G l (σ.delBox b) (fun e' σ' => awpOps P G l R (l.drop n) e' σ') (l.take n) e σ [b]) : drawW P G l.toArray R e σ d d' d2 d3 :=
 .inl ⟨[], n, σ.delBox b, [b], rfl, hn, AS.delBox_le σ b, fun c hc => by
  have : c = b := by simpa using hc
  subst this
  exact ⟨by rw [hb]; rfl, by simp [AS.delBox]⟩, h⟩
theorem draw_float2 {l : List Oper} {d : Dum l.toArray} {d' : Dum R} {d2 : Dum e} {d3 : Dum σ} (n b b' : Nat) {z z' : List AV} (hn : drawB l.toArray n = true) (hb : σ.box b = some z) (hb' : σ.box b' = some z')
  (h : awpHeadS P G l ((σ.delBox b).delBox b') (fun e' σ' => awpOps P G l R (l.drop n) e' σ') (l.take n) e σ [b, b']) : drawW P G l.toArray R e σ d d' d2 d3 :=
 .inl ⟨[], n, (σ.delBox b).delBox b', [b, b'], rfl, hn, (AS.delBox_le _ b').trans (AS.delBox_le σ b), fun c hc => by
  have : c = b \/ c = b' := by simpa using hc
  rcases this with rfl | rfl
  ·exact ⟨by rw [hb]; rfl, by simp [AS.delBox]⟩
  ·exact ⟨by rw [hb']; rfl, by simp [AS.delBox]⟩, h⟩
end fl
section pl
variable {P : Program} {G : Nat -> AV} {ops : List Oper} {σ0 σ : AS} {R : Env -> AS -> Prop} {e : Env} {d : Option Tmp} {ty : TypeId} {pos : String} {af : Array Edge} {g : Option (Nat × Bool)}
theorem pl_done : awpPl P G ops σ0 R .done e σ = R e σ := nr rfl
theorem pl_bad : awpPl P G ops σ0 R .bad e σ = False := nr rfl
theorem pl_none : awpPl P G ops σ0 R .none e σ = True := nr rfl
theorem pl_more {i : Nat} {t r : Pl} : awpPl P G ops σ0 R (.more i t r) e σ = (stepQ P G ops σ0 ops[i]? (fun e' s => awpPl P G ops σ0 R t e' s) e σ /\ awpPl P G ops σ0 R r e σ) := nr rfl
theorem sq_some {o : Oper} {K : Env -> AS -> Prop} : stepQ P G ops σ0 (some o) K e σ = gW (awanted ops e o.guard) (hopQ P G o e σ0 σ fun r s => K (e.upd o.dst r) s) (K (e.upd o.dst (.tup [])) σ) ⟨⟩ ⟨⟩ := nr rfl
def storeQ (P : Program) (σ0 σ : AS) (t : TypeId) (p x : AV) (K : AV -> AS -> Prop) (_ : Dum σ0) (_ : Dum σ) (_ : Dum K) : Prop :=
 (∃ b off z0 z, p = .ptr b off /\ σ0.box b = none /\ σ.box b = some z0 /\ astore P σ t (.ptr b off) x = some (σ.setBox b z) /\ K .undef (σ.setBox b z)) \/ (sameSt P σ0 t p x /\ K .undef σ)
theorem hq_store {t : TypeId} {p x : Operand} {K : AV -> AS -> Prop} : hopQ P G ⟨d, .store t p x, ty, pos, af, g⟩ e σ0 σ K = storeQ P σ0 σ t (ev G e p) (ev G e x) K ⟨⟩ ⟨⟩ ⟨⟩ := nr rfl
theorem hq_move {x : Operand} {K : AV -> AS -> Prop} : hopQ P G ⟨d, .move x, ty, pos, af, g⟩ e σ0 σ K = hop P G ⟨d, .move x, ty, pos, af, g⟩ e σ0 σ K := nr rfl
theorem hq_assign {x : Operand} {K : AV -> AS -> Prop} : hopQ P G ⟨d, .assign x, ty, pos, af, g⟩ e σ0 σ K = hop P G ⟨d, .assign x, ty, pos, af, g⟩ e σ0 σ K := nr rfl
theorem hq_pick {a b c : Operand} {K : AV -> AS -> Prop} : hopQ P G ⟨d, .pick a b c, ty, pos, af, g⟩ e σ0 σ K = hop P G ⟨d, .pick a b c, ty, pos, af, g⟩ e σ0 σ K := nr rfl
theorem hq_alloc {E : TypeId} {K : AV -> AS -> Prop} : hopQ P G ⟨d, .alloc E, ty, pos, af, g⟩ e σ0 σ K = hop P G ⟨d, .alloc E, ty, pos, af, g⟩ e σ0 σ K := nr rfl
theorem hq_box {E : TypeId} {x : Operand} {K : AV -> AS -> Prop} : hopQ P G ⟨d, .box E x, ty, pos, af, g⟩ e σ0 σ K = hop P G ⟨d, .box E x, ty, pos, af, g⟩ e σ0 σ K := nr rfl
theorem hq_build {t : TypeId} {ps : Array (Nat × Operand)} {K : AV -> AS -> Prop} : hopQ P G ⟨d, .build t ps, ty, pos, af, g⟩ e σ0 σ K = hop P G ⟨d, .build t ps, ty, pos, af, g⟩ e σ0 σ K := nr rfl
theorem hq_buildSlice {t n : Nat} {ps : Array (Nat × Operand)} {K : AV -> AS -> Prop} : hopQ P G ⟨d, .buildSlice t n ps, ty, pos, af, g⟩ e σ0 σ K = hop P G ⟨d, .buildSlice t n ps, ty, pos, af, g⟩ e σ0 σ K := nr rfl
theorem hq_load {t : TypeId} {x : Operand} {K : AV -> AS -> Prop} : hopQ P G ⟨d, .load t x, ty, pos, af, g⟩ e σ0 σ K = hop P G ⟨d, .load t x, ty, pos, af, g⟩ e σ0 σ K := nr rfl
theorem hq_nilCheck {x : Operand} {K : AV -> AS -> Prop} : hopQ P G ⟨d, .nilCheck x, ty, pos, af, g⟩ e σ0 σ K = hop P G ⟨d, .nilCheck x, ty, pos, af, g⟩ e σ0 σ K := nr rfl
theorem hq_binOp {op : BinOp} {t yt : TypeId} {x y : Operand} {K : AV -> AS -> Prop} : hopQ P G ⟨d, .binOp op t x y yt, ty, pos, af, g⟩ e σ0 σ K = hop P G ⟨d, .binOp op t x y yt, ty, pos, af, g⟩ e σ0 σ K := nr rfl
theorem hq_unOp {op : UnOp} {t : TypeId} {x : Operand} {K : AV -> AS -> Prop} : hopQ P G ⟨d, .unOp op t x, ty, pos, af, g⟩ e σ0 σ K = hop P G ⟨d, .unOp op t x, ty, pos, af, g⟩ e σ0 σ K := nr rfl
theorem hq_convert {s t : TypeId} {x : Operand} {K : AV -> AS -> Prop} : hopQ P G ⟨d, .convert s t x, ty, pos, af, g⟩ e σ0 σ K = hop P G ⟨d, .convert s t x, ty, pos, af, g⟩ e σ0 σ K := nr rfl
theorem hq_makeFunc {f : FuncId} {caps : Array Operand} {K : AV -> AS -> Prop} : hopQ P G ⟨d, .makeFunc (.func f) #[] caps, ty, pos, af, g⟩ e σ0 σ K = hop P G ⟨d, .makeFunc (.func f) #[] caps, ty, pos, af, g⟩ e σ0 σ K := nr rfl
theorem hq_slice {t : TypeId} {x : Operand} {lo hi : Option Operand} {K : AV -> AS -> Prop} : hopQ P G ⟨d, .slice t x lo hi none, ty, pos, af, g⟩ e σ0 σ K = hop P G ⟨d, .slice t x lo hi none, ty, pos, af, g⟩ e σ0 σ K := nr rfl
theorem hq_fieldAddr {t : TypeId} {x : Operand} {i : Nat} {K : AV -> AS -> Prop} : hopQ P G ⟨d, .fieldAddr t x i, ty, pos, af, g⟩ e σ0 σ K = hop P G ⟨d, .fieldAddr t x i, ty, pos, af, g⟩ e σ0 σ K := nr rfl
theorem hq_field {t : TypeId} {x : Operand} {i : Nat} {K : AV -> AS -> Prop} : hopQ P G ⟨d, .field t x i, ty, pos, af, g⟩ e σ0 σ K = hop P G ⟨d, .field t x i, ty, pos, af, g⟩ e σ0 σ K := nr rfl
theorem hq_indexAddr {t : TypeId} {x i : Operand} {K : AV -> AS -> Prop} : hopQ P G ⟨d, .indexAddr t x i, ty, pos, af, g⟩ e σ0 σ K = hop P G ⟨d, .indexAddr t x i, ty, pos, af, g⟩ e σ0 σ K := nr rfl
theorem hq_index {t : TypeId} {x i : Operand} {K : AV -> AS -> Prop} : hopQ P G ⟨d, .index t x i, ty, pos, af, g⟩ e σ0 σ K = hop P G ⟨d, .index t x i, ty, pos, af, g⟩ e σ0 σ K := nr rfl
theorem hq_extract {x : Operand} {i : Nat} {K : AV -> AS -> Prop} : hopQ P G ⟨d, .extract x i, ty, pos, af, g⟩ e σ0 σ K = hop P G ⟨d, .extract x i, ty, pos, af, g⟩ e σ0 σ K := nr rfl
theorem hq_call {f : Operand} {args : Array Operand} {ts : Array TypeId} {K : AV -> AS -> Prop} : hopQ P G ⟨d, .call ⟨.value f, args, ts⟩, ty, pos, af, g⟩ e σ0 σ K = hop P G ⟨d, .call ⟨.value f, args, ts⟩, ty, pos, af, g⟩ e σ0 σ K := nr rfl
theorem hq_len {args : Array Operand} {ts : Array TypeId} {K : AV -> AS -> Prop} : hopQ P G ⟨d, .call ⟨.builtin .len, args, ts⟩, ty, pos, af, g⟩ e σ0 σ K = hop P G ⟨d, .call ⟨.builtin .len, args, ts⟩, ty, pos, af, g⟩ e σ0 σ K := nr rfl
theorem hq_cap {args : Array Operand} {ts : Array TypeId} {K : AV -> AS -> Prop} : hopQ P G ⟨d, .call ⟨.builtin .cap, args, ts⟩, ty, pos, af, g⟩ e σ0 σ K = hop P G ⟨d, .call ⟨.builtin .cap, args, ts⟩, ty, pos, af, g⟩ e σ0 σ K := nr rfl
theorem hq_usd {args : Array Operand} {ts : Array TypeId} {K : AV -> AS -> Prop} : hopQ P G ⟨d, .call ⟨.builtin .unsafeSliceData, args, ts⟩, ty, pos, af, g⟩ e σ0 σ K = hop P G ⟨d, .call ⟨.builtin .unsafeSliceData, args, ts⟩, ty, pos, af, g⟩ e σ0 σ K := nr rfl
theorem hq_max {args : Array Operand} {ts : Array TypeId} {K : AV -> AS -> Prop} : hopQ P G ⟨d, .call ⟨.builtin .max, args, ts⟩, ty, pos, af, g⟩ e σ0 σ K = hop P G ⟨d, .call ⟨.builtin .max, args, ts⟩, ty, pos, af, g⟩ e σ0 σ K := nr rfl
theorem hq_min {args : Array Operand} {ts : Array TypeId} {K : AV -> AS -> Prop} : hopQ P G ⟨d, .call ⟨.builtin .min, args, ts⟩, ty, pos, af, g⟩ e σ0 σ K = hop P G ⟨d, .call ⟨.builtin .min, args, ts⟩, ty, pos, af, g⟩ e σ0 σ K := nr rfl
theorem hq_makeSlice {t : TypeId} {x y : Operand} {K : AV -> AS -> Prop} : hopQ P G ⟨d, .makeSlice t x y, ty, pos, af, g⟩ e σ0 σ K = hop P G ⟨d, .makeSlice t x y, ty, pos, af, g⟩ e σ0 σ K := nr rfl
theorem draw_perm {l : List Oper} {d : Dum l.toArray} {d' : Dum R} {d2 : Dum e} {d3 : Dum σ} (n : Nat) (p : List Nat) (hn : rowPOK l.toArray n p = true) {tl : List Oper} (h2 : l.drop n = tl)
  (h : Inf σ -> awpP P G l.toArray σ (fun e' s => awpOps P G l R tl e' s) p e σ) : drawW P G l.toArray R e σ d d' d2 d3 := .inr (.inr (.inr (.inl ⟨n, p, hn, by subst h2; simpa using h⟩)))
theorem p_nil {l : Array Oper} {σ0 : AS} {Q : Env -> AS -> Prop} (h : Q e σ) : awpP P G l σ0 Q [] e σ := h
theorem p_read {l : Array Oper} {σ0 : AS} {Q : Env -> AS -> Prop} {k : Nat} {p : List Nat} {o : Oper} {v : AV} (h0 : l[k]? = some o) (h1 : isRead o = true) (h2 : rdv P G o e σ0 = some v) (h : awpP P G l σ0 Q p (e.upd o.dst v) σ) : awpP P G l σ0 Q (k :: p) e σ := by
 unfold awpP; rw [h0]; exact .inl ⟨h1, v, h2, h⟩
theorem p_seq {l : Array Oper} {σ0 : AS} {Q : Env -> AS -> Prop} {k : Nat} {p : List Nat} {o : Oper} (h0 : l[k]? = some o) (h1 : isRead o = false) (h : aop P G o e σ (fun r s => σ.le s /\ Inf s /\ awpP P G l σ0 Q p (e.upd o.dst r) s)) : awpP P G l σ0 Q (k :: p) e σ := by
 unfold awpP; rw [h0]; exact .inr (.inr ⟨h1, rfl, h⟩)
theorem draw_inv {l : List Oper} {d : Dum l.toArray} {d' : Dum R} {d2 : Dum e} {d3 : Dum σ} (n : Nat) (I : (Nat -> Bool) -> Env -> AS -> Prop) (hn : rowIB l.toArray n = true) {hd tl : List Oper} (h1 : l.take n = hd) (h2 : l.drop n = tl)
  (h0 : Inf σ -> I (fun _ => false) e σ) (hs : stepsI P G I 0 hd) (hq : ∀ D e σ, (∀ j, j < n -> D j = true) -> I D e σ -> awpOps P G l R tl e σ) : drawW P G l.toArray R e σ d d' d2 d3 :=
 .inr (.inr (.inr (.inr ⟨n, I, hn, h0, by subst h1; simpa using hs, by subst h2; simpa using hq⟩)))
theorem draw_meet (hm : P.follows .mixedOrders = true) {l : List Oper} {d : Dum l.toArray} {d' : Dum R} {d2 : Dum e} {d3 : Dum σ} (I : Env -> AS -> Prop) (h1 : drawW P G l.toArray I e σ ⟨⟩ ⟨⟩ ⟨⟩ ⟨⟩)
  (h2 : ∀ v σ', I (mrg (opsWrites l) v e) σ' -> R (mrg (opsWrites l) v e) σ') : drawW P G l.toArray R e σ d d' d2 d3 := by
 have h4 := (drawOK hm).frame l.toArray _ e σ h1
 refine (drawOK hm).mono l.toArray _ R e σ (fun e' s' ⟨h5, h7⟩ => ?_) h4
 have : e' = mrg (opsWrites l) e' e := by
  funext t
  unfold mrg
  by_cases ht : (opsWrites l).contains t = true
  ·rw [if_pos ht]
  ·rw [if_neg ht]
   exact h7 t (by simpa using ht)
 rw [this]
 exact h2 e' s' (by rw [<- this]; exact h5)
end pl
end Go.Av
namespace Go.Av
open Go Go.RowKit
inductive Frz (b n s : Nat) (y : AV) : AV -> AV -> Prop
 | same (a : AV) : Frz b n s y a a
 | here (E : TypeId) : Frz b n s y (.bs b n s E) y
 | tup (l l' : List AV) (hl : l.length = l'.length) (h : ∀ j (h1 : j < l.length) (h2 : j < l'.length), Frz b n s y l[j] l'[j]) : Frz b n s y (.tup l) (.tup l')
 | agg (l l' : List AV) (hl : l.length = l'.length) (h1 : ∀ c, c ∈ l' -> one c = true) (h : ∀ j (h1 : j < l.length) (h2 : j < l'.length), Frz b n s y l[j] l'[j]) : Frz b n s y (.agg l) (.agg l')
def Has (b n s : Nat) (r : AV) : Prop := ∀ K v, VR K r v -> ∃ cap E, K.row b = some (cap, s, E) /\ n <= cap /\ cap <= maxLen
theorem Has.bs {b n s : Nat} {E : TypeId} : Has b n s (.bs b n s E) := fun K v h => by
 cases h with
 | bs _ _ _ cap E hr hn hm => exact ⟨cap, E, hr, hn, hm⟩
theorem Has.tup {b n s : Nat} {l : List AV} (j : Nat) (hj : j < l.length) (h : Has b n s l[j]) : Has b n s (.tup l) := fun K v hv => by
 cases hv with
 | tup _ vs hl hvv => exact h K _ (hvv j hj)
theorem Has.agg {b n s : Nat} {l : List AV} (j : Nat) (hj : j < l.length) (h : Has b n s l[j]) : Has b n s (.agg l) := fun K v hv => by
 cases hv with
 | agg _ vs hl h1 hvv => exact h K _ (hvv j hj)
structure Items (n s : Nat) (xs cs : List AV) : Prop where
 len : xs.length = n
 flat : xs.flatMap flat = cs
 item : ∀ a, a ∈ xs -> (Av.flat a).length = s /\ isv a = true
theorem Items.size {n s : Nat} {xs cs : List AV} (h : Items n s xs cs) : cs.length = n * s := by
 rw [<- h.flat, flatMap_length (sz := s) xs (fun a ha => (h.item a ha).1), h.len]
def AS.froze (σ : AS) (b n s : Nat) : AS := (σ.delBox b).setTip b (n, s)
theorem freeze_world {G : Nat -> AV} {K : Ctx} {σ : AS} {w : World} (hr : Rel G K σ w) {b n s : Nat} {xs cs : List AV} (hb : σ.box b = some cs) (hi : Items n s xs cs) {cap : Nat} {E : TypeId} (hrow : K.row b = some (cap, s, E)) (hn : n <= cap) (hm : cap <= maxLen) :
  ∃ K', K.le K' /\ Rel G K' (σ.froze b n s) w /\ ∀ r r' v, Frz b n s (.sl (.own b) xs []) r r' -> VR K r v -> VR K' r' v := by
 obtain ⟨K', h1, h2, h3, f, h4, h5, h6⟩ := hr.frozen hb hrow hi.size hn
 refine ⟨K', h1, h2, fun r r' v hf => ?_⟩
 induction hf generalizing v with
 | same a => exact fun hv => hv.mono h1
 | here E0 =>
  intro hv
  cases hv with
  | bs _ _ _ cap2 E2 hr2 hn2 hm2 =>
   rw [hrow] at hr2
   simp only [Option.some.injEq, Prod.mk.injEq] at hr2
   obtain ⟨rfl, _, rfl⟩ := hr2
   have hfl : ((xs ++ []).flatMap flat) = cs := by rw [List.append_nil, hi.flat]
   have := VR.sl (K := K') (.own b) xs [] s b 0 cap f
    (fun e he => by
      rw [List.append_nil] at he
      refine ⟨(hi.item e he).1, (hi.item e he).2, fun c hc => h6 c ?_⟩
      rw [<- hi.flat]; exact List.mem_flatMap.2 ⟨e, he, hc⟩)
    (by rw [hi.len]; simp; exact hn) hm
    (fun j hj => by rw [hfl] at hj; rw [Nat.zero_add]; exact h4 j hj)
    (fun j hj => by
      have hj' : j < cs.length := by rw [hfl] at hj; exact hj
      have e1 : ((xs ++ []).flatMap flat)[j] = cs[j] := by congr 1
      rw [e1]; exact h5 j hj')
    ⟨rfl, rfl, E, s, h3⟩
   rw [hi.len] at this
   exact this
 | tup l l' hl h ih =>
  intro hv
  cases hv with
  | tup _ vs hvl hvv => exact .tup l' vs (by omega) fun j hj => ih j (by omega) hj _ (hvv j (by omega))
 | agg l l' hl h1' h ih =>
  intro hv
  cases hv with
  | agg _ vs hvl ho hvv => exact .agg l' vs (by omega) h1' fun j hj => ih j (by omega) hj _ (hvv j (by omega))
theorem Tri.freezeRes {P : Program} {G : Nat -> AV} {f : FuncId} {args : List AV} {σ : AS} {Q Q' : AV -> AS -> Prop} (h : Tri P G f args σ Q)
  (hq : ∀ r σ', Q r σ' -> ∃ b n s xs cs r', σ'.box b = some cs /\ Items n s xs cs /\ Has b n s r /\ Frz b n s (.sl (.own b) xs []) r r' /\ Q' r' (σ'.froze b n s)) : Tri P G f args σ Q' :=
 ⟨h.1, fun K w vals hr hv => (h.2 K w vals hr hv).mono fun e w' ⟨v, r, σ', K', he, hQ, h1, h2, h3⟩ => by
   obtain ⟨b, n, s, xs, cs, r', g1, g2, g3, g4, g5⟩ := hq r σ' hQ
   obtain ⟨cap, E, g6, g7, g8⟩ := g3 K' v h1
   obtain ⟨K2, k1, k2, k3⟩ := freeze_world h2 g1 g2 g6 g7 g8
   exact ⟨v, r', _, K2, he, g5, k3 r r' v g4 h1, k2, h3.trans k1⟩⟩
inductive FrzL (b n s : Nat) (y : AV) : List AV -> List AV -> Prop
 | nil : FrzL b n s y [] []
 | cons {a a' : AV} {l l' : List AV} (h : Frz b n s y a a') (t : FrzL b n s y l l') : FrzL b n s y (a :: l) (a' :: l')
theorem FrzL.refl {b n s : Nat} {y : AV} : ∀ (l : List AV), FrzL b n s y l l
 | [] => .nil
 | a :: l => .cons (.same a) (FrzL.refl l)
def HasL (b n s : Nat) (l : List AV) : Prop := ∃ a, a ∈ l /\ Has b n s a
theorem HasL.row {b n s : Nat} {K : Ctx} : ∀ {l : List AV} {vs : List Value}, VRl K l vs -> HasL b n s l -> ∃ cap E, K.row b = some (cap, s, E) /\ n <= cap /\ cap <= maxLen
 | a :: l, v :: vs, ⟨h1, h2⟩, ⟨x, hx, hh⟩ => by
  rcases List.mem_cons.1 hx with rfl | hx
  ·exact hh K v h1
  ·exact HasL.row h2 ⟨x, hx, hh⟩
 | [], _, _, ⟨x, hx, _⟩ => by cases hx
 | _ :: _, [], h, _ => h.elim
theorem Tri.nil_or {P : Program} {G : Nat -> AV} {f : FuncId} {σ : AS} {Q : AV -> AS -> Prop} (h1 : Tri P G f [.nil] σ Q) (h2 : ∀ a c, Tri P G f [.raw (.slice (some a) 0 c)] σ Q) : Tri P G f [.sl .none [] []] σ Q :=
 ⟨h1.1, fun K w vals hr hv => by
   match vals, hv with
   | [v], ⟨hv, _⟩ =>
    have raw : ∀ a c, v = .slice (some a) 0 c -> _ := fun a c e => (h2 a c).2 K w [v] hr ⟨e ▸ .raw _, trivial⟩
    cases hv with
    | sl0 a =>
     cases a with
     | none => exact h1.2 K w _ hr ⟨.nil, trivial⟩
     | some a => exact raw a 0 rfl
    | sl _ _ _ sz b off cap f hsz hcap hml himm hvv hg => exact raw _ _ rfl⟩
theorem AS.froze_le {σ0 σ : AS} (h : σ0.le σ) {b n s : Nat} (hb : σ0.box b = none) (ht : σ0.tip b = none) : σ0.le (σ.froze b n s) := by
 have h1 : σ0.le (σ.delBox b) := ⟨fun i cs hi => by
  show (if i = b then none else σ.box i) = some cs
  have hne : i ≠ b := fun e => by subst e; rw [hb] at hi; cases hi
  rw [if_neg hne]; exact h.box _ _ hi, fun i m hi => h.tip _ _ hi, h.ty⟩
 exact h1.setTip ht _
end Go.Av
namespace Go.Av
open Go
theorem cw_skip : cWrites .skip = [] := nr rfl
theorem cw_exit {i : Nat} : cWrites (.exit i) = [] := nr rfl
theorem cw_ret : cWrites .ret = [] := nr rfl
theorem cw_refuse {w : String} : cWrites (.refuse w) = [] := nr rfl
theorem cw_range {f : Operand} {ps : Array Tmp} {a b : Code} : cWrites (.rangeFunc f ps a b) = [] := nr rfl
theorem afin_none : afin [] = .tup [] := nr rfl
theorem afin_two {a b : AV} {l : List AV} : afin (a :: b :: l) = .tup (a :: b :: l) := nr rfl
def bp0 := And.intro (And.intro (And.intro (And.intro @w_seq @w_region) (And.intro @w_draw @w_cond)) (And.intro (And.intro @w_block @w_loop) (And.intro @w_exit @w_ret))) (And.intro (And.intro (And.intro @w_skip @w_nil) (And.intro @w_cons @h_nil)) (And.intro (And.intro @h_cons @o_store) (And.intro @o_append @fin_normal)))
def bp1 := And.intro (And.intro (And.intro (And.intro @fin_ret @fin_exit) (And.intro @ev_tmp @ev_const)) (And.intro (And.intro @ev_global @ev_func) (And.intro @upd_some @upd_none))) (And.intro (And.intro (And.intro @mrg_at @argEnv_at) (And.intro @box_set @box_tip)) (And.intro (And.intro @box_del @tip_box) (And.intro @tip_set @tip_del)))
def bp2 := And.intro (And.intro (And.intro (And.intro @o_move @o_assign) (And.intro @o_pick @o_alloc)) (And.intro (And.intro @o_box @o_build) (And.intro @o_buildSlice @o_makeSlice))) (And.intro (And.intro (And.intro @o_load @o_nilCheck) (And.intro @o_binOp @o_unOp)) (And.intro (And.intro @o_convert @o_makeFunc) (And.intro @o_slice @o_fieldAddr)))
def bp3 := And.intro (And.intro (And.intro (And.intro @o_field @o_indexAddr) (And.intro @o_index @o_extract)) (And.intro (And.intro @o_len @o_max) (And.intro @o_min @o_call))) (And.intro (And.intro (And.intro @h_move @h_assign) (And.intro @h_pick @h_alloc)) (And.intro (And.intro @h_box @h_build) (And.intro @h_buildSlice @h_load)))
def bp4 := And.intro (And.intro (And.intro (And.intro @h_nilCheck @h_binOp) (And.intro @h_unOp @h_convert)) (And.intro (And.intro @h_makeFunc @h_slice) (And.intro @h_fieldAddr @h_field))) (And.intro (And.intro (And.intro @h_indexAddr @h_index) (And.intro @h_extract @h_len)) (And.intro (And.intro @h_max @h_min) (And.intro @h_call @ht_nil)))
def bp5 := And.intro (And.intro (And.intro (And.intro @ht_cons @iw_move) (And.intro @iw_assign @iw_pick)) (And.intro (And.intro @iw_alloc @iw_box) (And.intro @iw_build @iw_buildSlice))) (And.intro (And.intro (And.intro @iw_makeSlice @iw_load) (And.intro @iw_nilCheck @iw_binOp)) (And.intro (And.intro @iw_unOp @iw_convert) (And.intro @iw_makeFunc @iw_slice)))
def bp6 := And.intro (And.intro (And.intro (And.intro @iw_fieldAddr @iw_field) (And.intro @iw_indexAddr @iw_index)) (And.intro (And.intro @iw_extract @iw_len) (And.intro @iw_max @iw_min))) (And.intro (And.intro (And.intro @iw_call @iw_store) (And.intro @iw_append @ty_box)) (And.intro (And.intro @ty_tip @ty_del) (And.intro @ty_set @box_ty)))
def bp7 := And.intro (And.intro (And.intro (And.intro @tip_ty @box_delB) (And.intro @tip_delB @ty_delB)) (And.intro (And.intro @o_range @o_next) (And.intro @tyset_set @o_cap))) (And.intro (And.intro (And.intro @o_usd @o_ustr) (And.intro @h_cap @h_usd)) (And.intro (And.intro @iw_cap @iw_usd) (And.intro @iw_ustr @hs_nil)))
def bp8 := And.intro (And.intro (And.intro (And.intro @hs_cons @hs_store) (And.intro @h_store @hs_move)) (And.intro (And.intro @hs_assign @hs_pick) (And.intro @hs_alloc @hs_box))) (And.intro (And.intro (And.intro @hs_build @hs_buildSlice) (And.intro @hs_makeSlice @hs_load)) (And.intro (And.intro @hs_nilCheck @hs_binOp) (And.intro @hs_unOp @hs_convert)))
def bp9 := And.intro (And.intro (And.intro (And.intro @hs_makeFunc @hs_slice) (And.intro @hs_fieldAddr @hs_field)) (And.intro (And.intro @hs_indexAddr @hs_index) (And.intro @hs_extract @hs_len))) (And.intro (And.intro (And.intro @hs_max @hs_min) (And.intro @hs_call @hs_cap)) (And.intro (And.intro @hs_usd @pl_done) (And.intro @pl_bad @pl_none)))
def bp10 := And.intro (And.intro (And.intro (And.intro @pl_more @sq_some) (And.intro @hq_store @hq_move)) (And.intro (And.intro @hq_assign @hq_pick) (And.intro @hq_alloc @hq_box))) (And.intro (And.intro (And.intro @hq_build @hq_buildSlice) (And.intro @hq_makeSlice @hq_load)) (And.intro (And.intro @hq_nilCheck @hq_binOp) (And.intro @hq_unOp @hq_convert)))
def bp11 := And.intro (And.intro (And.intro (@hq_makeFunc) (And.intro @hq_slice @hq_fieldAddr)) (And.intro (@hq_field) (And.intro @hq_indexAddr @hq_index))) (And.intro (And.intro (@hq_extract) (And.intro @hq_len @hq_max)) (And.intro (And.intro @hq_min @hq_call) (And.intro @hq_cap @hq_usd)))
def bp := And.intro (And.intro (And.intro (@bp0) (And.intro @bp1 @bp2)) (And.intro (@bp3) (And.intro @bp4 @bp5))) (And.intro (And.intro (@bp6) (And.intro @bp7 @bp8)) (And.intro (@bp9) (And.intro @bp10 @bp11)))
def bq0 := And.intro (And.intro (And.intro (And.intro @htW_true @htW_false) (And.intro @aw_none @aw_some)) (And.intro (And.intro @awo_some @awk_true) (And.intro @awk_false @awk_skip))) (And.intro (And.intro (And.intro @gW_true @gW_false) (And.intro @gW_not @condW_not)) (And.intro (And.intro @bo_some @bo_none) (And.intro @bo_ite @bo_ite')))
def bq1 := And.intro (And.intro (And.intro (And.intro @st_eq @condW_true) (And.intro @condW_false @pickW_true)) (And.intro (And.intro @pickW_false @boxW_eq) (And.intro @nilW_ptr @nilW_rp))) (And.intro (And.intro (And.intro @nilW_fn @callW_nocaps) (And.intro @callW_fn @c_bool)) (And.intro (And.intro @c_int @c_str) (And.intro @c_nil @c_nilptr)))
def bq2 := And.intro (And.intro (And.intro (And.intro @c_nilfn @c_nilif) (And.intro @aload_ptr @ldk_some)) (And.intro (And.intro @aload_rp @ldr_some) (And.intro @rd_true @rd_false))) (And.intro (And.intro (And.intro @afield_eq @fdk_ptr) (And.intro @fdk_rp @afieldv_agg)) (And.intro (And.intro @fvk_some @aindexA_sl) (And.intro @ixk_some @aindex_str)))
def bq3 := And.intro (And.intro (And.intro (And.intro @aextract_tup @abin_int) (And.intro @abin_str @abin_bool)) (And.intro (And.intro @abin_nil_nil @abin_nil_sl) (And.intro @abin_sl_nil @abin_fn_nil))) (And.intro (And.intro (And.intro @isNil_full @isNil_own) (And.intro @isNil_cons @i_add)) (And.intro (And.intro @i_sub @i_mul) (And.intro @i_quo @i_rem)))
def bq4 := And.intro (And.intro (And.intro (And.intro @i_eql @i_neq) (And.intro @i_lss @i_leq)) (And.intro (And.intro @i_gtr @i_geq) (And.intro @i_and @i_or))) (And.intro (And.intro (And.intro @i_xor @i_shl) (And.intro @i_shr @s_eql)) (And.intro (And.intro @s_neq @s_add) (And.intro @s_lss @aeq_eql)))
def bq5 := And.intro (And.intro (And.intro (And.intro @aeq_neq @aun_not) (And.intro @aun_neg @cvk_int)) (And.intro (And.intro @cvw_str @cvw_bytes) (And.intro @set_set @aindexA_rp))) (And.intro (And.intro (And.intro @aindexA_ptr @iak_some) (And.intro @abuild_eq @bdk_some)) (And.intro (And.intro @afill_nil @afill_cons) (And.intro @flk_some @l_str)))
def bq6 := And.intro (And.intro (And.intro (And.intro @l_nil @l_sl) (And.intro @l_max @l_min)) (And.intro (And.intro @astore_ptr @stk_some) (And.intro @pairs_nil @pairs_cons))) (And.intro (And.intro (And.intro @ares_nil @ares_tmp) (And.intro @ares_cell @ares_two)) (And.intro (And.intro @abnd_none @abnd_int) (And.intro @aslice_str @slks_some)))
def bq7 := And.intro (And.intro (And.intro (And.intro @flat_agg @flat_bool) (And.intro @flat_int @flat_str)) (And.intro (And.intro @flat_nil @flat_sl) (And.intro @flat_ptr @flat_rp))) (And.intro (And.intro (And.intro @flat_fn @flat_nilptr) (And.intro @flat_nilfn @isv_agg)) (And.intro (And.intro @isv_bool @isv_int) (And.intro @isv_str @isv_nil)))
def bq8 := And.intro (And.intro (And.intro (And.intro @isv_sl @isv_ptr) (And.intro @isv_rp @isv_fn)) (And.intro (And.intro @isv_nilptr @isv_nilfn) (And.intro @aconvZ_int @aconvZ_str))) (And.intro (And.intro (And.intro @aconvZ_nil @aconvZ_sl) (And.intro @aconvZ_bs @cvb_some)) (And.intro (And.intro @cvm_some @l_cap) (And.intro @l_bs @l_usd_nil)))
def bq9 := And.intro (And.intro (And.intro (And.intro @l_usd @isv_bs) (And.intro @flat_bs @isv_raws)) (And.intro (And.intro @flat_raw @abin_raw_nil) (And.intro @abin_nil_bs @abin_bs_nil))) (And.intro (And.intro (And.intro @aindexA_bs @ibk_some) (And.intro @aslice_bs @sbk_some)) (And.intro (And.intro @aslice_nil @nbk_some) (And.intro @aslice_rp @ustrW_nil)))
def bq10 := And.intro (And.intro (And.intro (And.intro @storeW_eq @stw_some) (And.intro @binK_tmp @binK_glob)) (And.intro (And.intro @binK_func @binK_int) (And.intro @binK_str @binK_bool))) (And.intro (And.intro (And.intro @binK_sl @binK_ptr) (And.intro @binK_nilf @binK_agg)) (And.intro (And.intro @binK_nil @abinN_nil) (And.intro @abinN_if @aindex_agg)))
def bq11 := And.intro (And.intro (And.intro (@axk_some) (And.intro @slW_plain @slW_bs)) (And.intro (@sbS_some) (And.intro @sbx_some @cvW_int))) (And.intro (And.intro (@cvW_nil) (And.intro @cvW_sl @cvW_bs)) (And.intro (@cvW_bool) (And.intro @cvW_str @cvT_none)))
def bq := And.intro (And.intro (And.intro (@bq0) (And.intro @bq1 @bq2)) (And.intro (@bq3) (And.intro @bq4 @bq5))) (And.intro (And.intro (@bq6) (And.intro @bq7 @bq8)) (And.intro (@bq9) (And.intro @bq10 @bq11)))
def br0 := And.intro (And.intro (And.intro (And.intro @List.getD_cons_zero.{0} @List.getD_cons_succ.{0}) (And.intro @List.getD_nil.{0} @List.map_cons.{0, 0})) (And.intro (And.intro @List.map_nil.{0, 0} @List.getElem?_cons_zero.{0}) (And.intro @List.getElem?_cons_succ.{0} @List.getElem?_nil.{0}))) (And.intro (And.intro (And.intro @List.take_zero.{0} @List.take_length.{0}) (And.intro @List.take_succ_cons.{0} @List.take_nil.{0})) (And.intro (And.intro @List.drop_zero.{0} @List.drop_succ_cons.{0}) (And.intro @List.drop_nil.{0} @List.length_cons.{0})))
def br1 := And.intro (And.intro (And.intro (And.intro @List.length_nil.{0} @List.head?_cons.{0}) (And.intro @List.head?_nil.{0} @List.cons_append.{0})) (And.intro (And.intro @List.nil_append.{0} @List.append_nil.{0}) (And.intro @List.all_cons.{0} @List.all_nil.{0}))) (And.intro (And.intro (And.intro @List.range_zero @List.length_map.{0, 0}) (And.intro @List.getElem?_map.{0, 0} @List.size_toArray.{0})) (And.intro (And.intro @List.getElem?_toArray.{0} @List.toList_toArray.{0}) (And.intro @Option.map_some.{0, 0} @Option.map_none.{0, 0})))
def br2 := And.intro (And.intro (And.intro (And.intro @Option.bind_some.{0, 0} @Option.bind_none.{0, 0}) (And.intro @Option.isSome_some.{0} @Option.isSome_none.{0})) (And.intro (And.intro @Option.some.injEq.{0} @Nat.zero_add) (And.intro @Nat.add_zero @Nat.le_refl))) (And.intro (And.intro (And.intro @Nat.add_one_ne_zero @Int.toNat_natCast) (And.intro @Int.natCast_nonneg @not_true_eq_false)) (And.intro (And.intro @not_false_eq_true @and_true) (And.intro @true_and @and_false)))
def br3 := And.intro (And.intro (And.intro (And.intro @false_and @or_true) (And.intro @true_or @or_false)) (And.intro (And.intro @false_or @Bool.and_true) (And.intro @Bool.true_and @Bool.and_false))) (And.intro (And.intro (And.intro @Bool.false_and @Bool.false_eq_true) (And.intro @Bool.true_eq_false @Bool.not_true)) (And.intro (And.intro @Bool.not_false @beq_self_eq_true.{0}) (And.intro @decide_true @decide_false)))
def br4 := And.intro (And.intro (And.intro (And.intro @decide_eq_true_eq @List.contains_cons.{0}) (And.intro @List.contains_nil.{0} @Bool.or_true)) (And.intro (And.intro @Bool.true_or @Bool.or_false) (And.intro @Bool.false_or @List.filterMap_cons.{0, 0}))) (And.intro (And.intro (And.intro @List.filterMap_nil.{0, 0} @List.range_succ) (And.intro @List.append_eq.{0} @List.mem_cons.{0})) (And.intro (And.intro @List.not_mem_nil.{0} @List.filter_cons.{0}) (And.intro @List.filter_nil.{0} @afin.eq_1)))
def br5 := And.intro (And.intro (And.intro (And.intro @afin_none @afin_two) (And.intro @bsk.eq_1 @bsk.eq_2)) (And.intro (And.intro @cWrites.eq_1 @cWrites.eq_2) (And.intro @cWrites.eq_3 @cWrites.eq_4))) (And.intro (And.intro (And.intro @cWrites.eq_5 @cw_skip) (And.intro @cw_exit @cw_ret)) (And.intro (And.intro @cw_refuse @cw_range) (And.intro @opsWrites.eq_1 @pieceGh.eq_1)))
def br6 := And.intro (And.intro (And.intro (@pieceGh.eq_2) (And.intro @pieceGh.eq_3 @rsk.eq_1)) (And.intro (@ne_eq.{1}) (And.intro @if_true.{1} @if_false.{1}))) (And.intro (And.intro (@exists_eq_left'.{1}) (And.intro @forall_const.{0} @forall_const.{1})) (And.intro (And.intro @forall_eq.{1} @ne_eq.{0}) (And.intro @if_true.{0} @if_false.{0})))
def br := And.intro (And.intro (@br0) (And.intro @br1 @br2)) (And.intro (And.intro @br3 @br4) (And.intro @br5 @br6))
class Spl (X : Prop) (A B : outParam Prop) : Prop where
 go : A -> B -> X
instance (priority := 2000) {p : Prop} [Decidable p] {A B : Prop} {d : Dum A} {d' : Dum B} : Spl (condW (.bool (decide p)) A B d d') (decide p = true -> ¬ ¬ p -> A) (decide p = false -> ¬ p -> B) := ⟨condW_both⟩
instance (priority := 2000) {p : Prop} [Decidable p] {A B : Prop} {d : Dum A} {d' : Dum B} : Spl (gW (some (decide p)) A B d d') (decide p = true -> ¬ ¬ p -> A) (decide p = false -> ¬ p -> B) := ⟨gW_both⟩
instance {t : Bool} {A B : Prop} {d : Dum A} {d' : Dum B} : Spl (condW (.bool t) A B d d') (t = true -> A) (t = false -> B) := ⟨condW_split⟩
instance {t : Bool} {A B : Prop} {d : Dum A} {d' : Dum B} : Spl (gW (some t) A B d d') (t = true -> A) (t = false -> B) := ⟨gW_split⟩
instance {t : Bool} {a b : AV} {F : AV -> Prop} {d : Dum a} {d' : Dum b} {d2 : Dum F} : Spl (pickW (.bool t) a b F d d' d2) (t = true -> F a) (t = false -> F b) := ⟨pickW_split⟩
theorem xs {X A B : Prop} [h : Spl X A B] (a : A) (b : B) : X := h.go a b
def xa := @condW_both
def xb := @gW_both
def lr := @AS.le.refl
def xf := @finish_pure
def xh := @newW_intro
def xi := @newT_plain
def xj := @storeX_w
def xk := @draw_all
def ls := @le_set
def lt := @le_ty
def lf := @AS.le.fresh
def fb := And.intro @fresh_box (And.intro @fresh_tip @fresh_ty)
structure Hid (Q : Prop) : Prop where
 out : Q
theorem wj {P Q : Prop} (k : Q) (h : Hid Q -> P := by (intro hq; first | refine xj ?_ | refine cv_plain ?_ | ((with_reducible refine And.intro ?_ ?_); omega) | refine bo_buildSlice (d' := ⟨⟩) ?_ | refine xk (by kernel_rfl) ?_ | refine xf ?_ (by repeat' first | exact lr _ | assumption | refine ls ?_ ?_ | refine lt ?_ ?_ | simp only [*]; done | simp only [fb, *, not_false_eq_true, and_self]; done | exact lf ‹_› (by simp only [*])) | refine finish_two ?_ (by repeat' first | exact lr _ | assumption | refine ls ?_ ?_ | refine lt ?_ ?_ | simp only [*]; done | simp only [fb, *, not_false_eq_true, and_self]; done | exact lf ‹_› (by simp only [*])) | fail); exact hq.out) : P := h ⟨k⟩
theorem wi {P Q : Prop} (k : Q) (h : Hid Q -> P := by (intro hq; first | refine xj ?_ | refine cv_plain ?_ | ((with_reducible refine And.intro ?_ ?_); omega) | refine bo_buildSlice (d' := ⟨⟩) ?_ | refine xf ?_ (by repeat' first | exact lr _ | assumption | refine ls ?_ ?_ | refine lt ?_ ?_ | simp only [*]; done | simp only [fb, *, not_false_eq_true, and_self]; done | exact lf ‹_› (by simp only [*])) | refine finish_two ?_ (by repeat' first | exact lr _ | assumption | refine ls ?_ ?_ | refine lt ?_ ?_ | simp only [*]; done | simp only [fb, *, not_false_eq_true, and_self]; done | exact lf ‹_› (by simp only [*])) | fail); exact hq.out) : P := h ⟨k⟩
theorem wn {P Q : Prop} (k : Q) (h : Hid Q -> P := by (intro hq; first | refine xh ?_ | refine xi ?_ | fail); exact hq.out) : P := h ⟨k⟩
theorem wz {P Q : Prop} (k : Q) (h : Hid Q -> P := by (intro hq; first | refine slW_bo ?_ | refine cv_any ?_ | fail); exact hq.out) : P := h ⟨k⟩
theorem wp {A P Q : Prop} (c : A) (k : Q) (h : A -> Hid Q -> P := by (intro hc hq; first | refine Pure.use hc ?_ | refine Pure.head hc ?_ | fail); exact hq.out) : P := h c ⟨k⟩
end Go.Av
set_option maxRecDepth 100000
namespace Go.Proofs.YtdhbdhopnpmboaaGreatDoor
open Go Go.Av
theorem tf2 : tk Tryz.prog 2 = some (false, 1) /\ sk Tryz.prog 2 = .int .i64 /\ (Tryz.prog.underlying 2).isSome = true /\ el Tryz.prog 2 = none /\ zc Tryz.prog 2 = some [.int .i64 0] /\ by_ Tryz.prog 2 = some 8 := ⟨by kernel_rfl, by kernel_rfl, by kernel_rfl, by kernel_rfl, by kernel_rfl, by kernel_rfl⟩
theorem tf3 : tk Tryz.prog 3 = some (false, 1) /\ sk Tryz.prog 3 = .int .i64 /\ (Tryz.prog.underlying 3).isSome = true /\ el Tryz.prog 3 = none /\ zc Tryz.prog 3 = some [.int .i64 0] /\ by_ Tryz.prog 3 = some 8 := ⟨by kernel_rfl, by kernel_rfl, by kernel_rfl, by kernel_rfl, by kernel_rfl, by kernel_rfl⟩
theorem tf4 : tk Tryz.prog 4 = some (false, 1) /\ sk Tryz.prog 4 = .bool /\ (Tryz.prog.underlying 4).isSome = true /\ el Tryz.prog 4 = none /\ zc Tryz.prog 4 = some [.bool false] /\ by_ Tryz.prog 4 = some 1 := ⟨by kernel_rfl, by kernel_rfl, by kernel_rfl, by kernel_rfl, by kernel_rfl, by kernel_rfl⟩
theorem tf5 : tk Tryz.prog 5 = some (false, 1) /\ sk Tryz.prog 5 = .int .u8 /\ (Tryz.prog.underlying 5).isSome = true /\ el Tryz.prog 5 = none /\ zc Tryz.prog 5 = some [.int .u8 0] /\ by_ Tryz.prog 5 = some 1 := ⟨by kernel_rfl, by kernel_rfl, by kernel_rfl, by kernel_rfl, by kernel_rfl, by kernel_rfl⟩
theorem tf9 : tk Tryz.prog 9 = some (false, 1) /\ sk Tryz.prog 9 = .str /\ (Tryz.prog.underlying 9).isSome = true /\ el Tryz.prog 9 = none /\ zc Tryz.prog 9 = some [.str []] /\ by_ Tryz.prog 9 = some 16 := ⟨by kernel_rfl, by kernel_rfl, by kernel_rfl, by kernel_rfl, by kernel_rfl, by kernel_rfl⟩
theorem tf22 : tk Tryz.prog 22 = some (false, 1) /\ sk Tryz.prog 22 = .int .u8 /\ (Tryz.prog.underlying 22).isSome = true /\ el Tryz.prog 22 = none /\ zc Tryz.prog 22 = some [.int .u8 0] /\ by_ Tryz.prog 22 = some 1 := ⟨by kernel_rfl, by kernel_rfl, by kernel_rfl, by kernel_rfl, by kernel_rfl, by kernel_rfl⟩
theorem tf23 : tk Tryz.prog 23 = some (false, 1) /\ sk Tryz.prog 23 = .sl 47 /\ (Tryz.prog.underlying 23).isSome = true /\ el Tryz.prog 23 = some 47 /\ zc Tryz.prog 23 = some [.nil] /\ by_ Tryz.prog 23 = some 24 /\ aelt Tryz.prog 23 = some (47, 1, 4) := ⟨by kernel_rfl, by kernel_rfl, by kernel_rfl, by kernel_rfl, by kernel_rfl, by kernel_rfl, by kernel_rfl⟩
theorem tf24 : tk Tryz.prog 24 = some (false, 1) /\ sk Tryz.prog 24 = .sl 26 /\ (Tryz.prog.underlying 24).isSome = true /\ el Tryz.prog 24 = some 26 /\ zc Tryz.prog 24 = some [.nil] /\ by_ Tryz.prog 24 = some 24 /\ aelt Tryz.prog 24 = some (26, 7, 104) := ⟨by kernel_rfl, by kernel_rfl, by kernel_rfl, by kernel_rfl, by kernel_rfl, by kernel_rfl, by kernel_rfl⟩
theorem tf26 : tk Tryz.prog 26 = some (true, 7) /\ sk Tryz.prog 26 = .st /\ (Tryz.prog.underlying 26).isSome = true /\ el Tryz.prog 26 = none /\ zc Tryz.prog 26 = some [.int .u8 0, .bool false, .nil, .str [], .int .i64 0, .nil, .nil] /\ by_ Tryz.prog 26 = some 104 /\ places Tryz.prog 26 = some [(0, 1), (1, 1), (2, 1), (3, 1), (4, 1), (5, 1), (6, 1)] /\ fld Tryz.prog 26 0 = some (0, false, 1) /\ fld Tryz.prog 26 1 = some (1, false, 1) /\ fld Tryz.prog 26 2 = some (2, false, 1) /\ fld Tryz.prog 26 3 = some (3, false, 1) /\ fld Tryz.prog 26 4 = some (4, false, 1) /\ fld Tryz.prog 26 5 = some (5, false, 1) /\ fld Tryz.prog 26 6 = some (6, false, 1) := ⟨by kernel_rfl, by kernel_rfl, by kernel_rfl, by kernel_rfl, by kernel_rfl, by kernel_rfl, by kernel_rfl, by kernel_rfl, by kernel_rfl, by kernel_rfl, by kernel_rfl, by kernel_rfl, by kernel_rfl, by kernel_rfl⟩
theorem tf34 : tk Tryz.prog 34 = some (false, 1) /\ sk Tryz.prog 34 = .fn /\ (Tryz.prog.underlying 34).isSome = true /\ el Tryz.prog 34 = none /\ zc Tryz.prog 34 = some [.nilfn] /\ by_ Tryz.prog 34 = some 8 := ⟨by kernel_rfl, by kernel_rfl, by kernel_rfl, by kernel_rfl, by kernel_rfl, by kernel_rfl⟩
theorem tf36 : tk Tryz.prog 36 = some (false, 1) /\ sk Tryz.prog 36 = .sl 24 /\ (Tryz.prog.underlying 36).isSome = true /\ el Tryz.prog 36 = some 24 /\ zc Tryz.prog 36 = some [.nil] /\ by_ Tryz.prog 36 = some 24 /\ aelt Tryz.prog 36 = some (24, 1, 24) := ⟨by kernel_rfl, by kernel_rfl, by kernel_rfl, by kernel_rfl, by kernel_rfl, by kernel_rfl, by kernel_rfl⟩
theorem tf44 : tk Tryz.prog 44 = some (false, 1) /\ sk Tryz.prog 44 = .sl 9 /\ (Tryz.prog.underlying 44).isSome = true /\ el Tryz.prog 44 = some 9 /\ zc Tryz.prog 44 = some [.nil] /\ by_ Tryz.prog 44 = some 24 /\ aelt Tryz.prog 44 = some (9, 1, 16) := ⟨by kernel_rfl, by kernel_rfl, by kernel_rfl, by kernel_rfl, by kernel_rfl, by kernel_rfl, by kernel_rfl⟩
theorem tf45 : tk Tryz.prog 45 = some (false, 1) /\ sk Tryz.prog 45 = .sl 5 /\ (Tryz.prog.underlying 45).isSome = true /\ el Tryz.prog 45 = some 5 /\ zc Tryz.prog 45 = some [.nil] /\ by_ Tryz.prog 45 = some 24 /\ aelt Tryz.prog 45 = some (5, 1, 1) := ⟨by kernel_rfl, by kernel_rfl, by kernel_rfl, by kernel_rfl, by kernel_rfl, by kernel_rfl, by kernel_rfl⟩
theorem tf47 : tk Tryz.prog 47 = some (false, 1) /\ sk Tryz.prog 47 = .int .u32 /\ (Tryz.prog.underlying 47).isSome = true /\ el Tryz.prog 47 = none /\ zc Tryz.prog 47 = some [.int .u32 0] /\ by_ Tryz.prog 47 = some 4 := ⟨by kernel_rfl, by kernel_rfl, by kernel_rfl, by kernel_rfl, by kernel_rfl, by kernel_rfl⟩
theorem tf54 : tk Tryz.prog 54 = some (false, 1) /\ sk Tryz.prog 54 = .ptr 56 /\ (Tryz.prog.underlying 54).isSome = true /\ el Tryz.prog 54 = none /\ zc Tryz.prog 54 = some [.nilptr] /\ by_ Tryz.prog 54 = some 8 := ⟨by kernel_rfl, by kernel_rfl, by kernel_rfl, by kernel_rfl, by kernel_rfl, by kernel_rfl⟩
theorem tf56 : tk Tryz.prog 56 = some (true, 2) /\ sk Tryz.prog 56 = .st /\ (Tryz.prog.underlying 56).isSome = true /\ el Tryz.prog 56 = none /\ zc Tryz.prog 56 = some [.nilptr, .nil] /\ by_ Tryz.prog 56 = some 32 /\ places Tryz.prog 56 = some [(0, 1), (1, 1)] /\ fld Tryz.prog 56 0 = some (0, false, 1) /\ fld Tryz.prog 56 1 = some (1, false, 1) := ⟨by kernel_rfl, by kernel_rfl, by kernel_rfl, by kernel_rfl, by kernel_rfl, by kernel_rfl, by kernel_rfl, by kernel_rfl, by kernel_rfl⟩
theorem tf62 : tk Tryz.prog 62 = some (false, 1) /\ sk Tryz.prog 62 = .fn /\ (Tryz.prog.underlying 62).isSome = true /\ el Tryz.prog 62 = none /\ zc Tryz.prog 62 = some [.nilfn] /\ by_ Tryz.prog 62 = some 8 := ⟨by kernel_rfl, by kernel_rfl, by kernel_rfl, by kernel_rfl, by kernel_rfl, by kernel_rfl⟩
theorem tf105 : tk Tryz.prog 105 = some (true, 19) /\ sk Tryz.prog 105 = .arr 19 9 /\ (Tryz.prog.underlying 105).isSome = true /\ el Tryz.prog 105 = none /\ zc Tryz.prog 105 = some [.str [], .str [], .str [], .str [], .str [], .str [], .str [], .str [], .str [], .str [], .str [], .str [], .str [], .str [], .str [], .str [], .str [], .str [], .str []] /\ by_ Tryz.prog 105 = some 304 /\ arrT Tryz.prog 105 = some (19, 1) /\ arrX Tryz.prog 105 = some (19, false, 1) := ⟨by kernel_rfl, by kernel_rfl, by kernel_rfl, by kernel_rfl, by kernel_rfl, by kernel_rfl, by kernel_rfl, by kernel_rfl⟩
theorem tf106 : tk Tryz.prog 106 = some (false, 1) /\ sk Tryz.prog 106 = .int .u64 /\ (Tryz.prog.underlying 106).isSome = true /\ el Tryz.prog 106 = none /\ zc Tryz.prog 106 = some [.int .u64 0] /\ by_ Tryz.prog 106 = some 8 := ⟨by kernel_rfl, by kernel_rfl, by kernel_rfl, by kernel_rfl, by kernel_rfl, by kernel_rfl⟩
theorem tf128 : tk Tryz.prog 128 = some (false, 1) /\ sk Tryz.prog 128 = .int .u64 /\ (Tryz.prog.underlying 128).isSome = true /\ el Tryz.prog 128 = none /\ zc Tryz.prog 128 = some [.int .u64 0] /\ by_ Tryz.prog 128 = some 8 := ⟨by kernel_rfl, by kernel_rfl, by kernel_rfl, by kernel_rfl, by kernel_rfl, by kernel_rfl⟩
theorem tf129 : tk Tryz.prog 129 = some (false, 1) /\ sk Tryz.prog 129 = .sl 4 /\ (Tryz.prog.underlying 129).isSome = true /\ el Tryz.prog 129 = some 4 /\ zc Tryz.prog 129 = some [.nil] /\ by_ Tryz.prog 129 = some 24 /\ aelt Tryz.prog 129 = some (4, 1, 1) := ⟨by kernel_rfl, by kernel_rfl, by kernel_rfl, by kernel_rfl, by kernel_rfl, by kernel_rfl, by kernel_rfl⟩
theorem tf147 : tk Tryz.prog 147 = some (false, 1) /\ sk Tryz.prog 147 = .sl 3 /\ (Tryz.prog.underlying 147).isSome = true /\ el Tryz.prog 147 = some 3 /\ zc Tryz.prog 147 = some [.nil] /\ by_ Tryz.prog 147 = some 24 /\ aelt Tryz.prog 147 = some (3, 1, 8) := ⟨by kernel_rfl, by kernel_rfl, by kernel_rfl, by kernel_rfl, by kernel_rfl, by kernel_rfl, by kernel_rfl⟩
theorem mixed : Tryz.prog.follows .mixedOrders = true := by kernel_rfl
end Go.Proofs.YtdhbdhopnpmboaaGreatDoor
namespace Go.Proofs.YtdhbdhopnpmboaaGreatDoor
open Go Go.RowKit
set_option maxHeartbeats 1000000 in
set_option maxRecDepth 100000 in
theorem copyCheck_used (b : Nat) (w : World) (h0 : w.cell? ⟨b, 0, none⟩ = some (.pointer (some ⟨b, 0, none⟩))) :
  Calls Tryz.prog 75 #[.pointer (some ⟨b, 0, none⟩)] w fun e w' => e = .returned (.tuple #[]) /\ w' = w := by
 have mixed : Tryz.prog.follows .mixedOrders = true := by kernel_rfl
 have t72 := Tryz.underlying56; have a72 := Tryz.isAgg56; have z72 := Tryz.sizeOf56; have v72 := Tryz.zeroValue56; have u72 := run_underlying Tryz.underlying56
 have t70 := Tryz.underlying54; have a70 := Tryz.isAgg54; have z70 := Tryz.sizeOf54; have v70 := Tryz.zeroValue54; have u70 := run_underlying Tryz.underlying54
 have t4 := Tryz.underlying4; have a4 := Tryz.isAgg4; have z4 := Tryz.sizeOf4; have v4 := Tryz.zeroValue4; have u4 := run_underlying Tryz.underlying4
 obtain ⟨j, hj, _⟩ : ∃ j, Tryz.prog.info? 56 = some j /\ j.size = 2 := ⟨_, rfl, by kernel_rfl⟩
 go_enter Tryz.func75, Tryz.ntmps75
 go_wp2
 rw [Lib.run_neq_ptr_same w _ Tryz.underlying54 hj]
 go_wp2
 go_end0
 exact ⟨rfl, rfl⟩
set_option maxHeartbeats 1000000 in
set_option maxRecDepth 100000 in
theorem copyCheck_fresh (b : Nat) (w : World) (h0 : w.cell? ⟨b, 0, none⟩ = some (.pointer none)) (hsh : w.shape? b = some (56, 2)) (hfz : w.frozen? ⟨b, 0, none⟩ = false) :
  Calls Tryz.prog 75 #[.pointer (some ⟨b, 0, none⟩)] w fun e w' => e = .returned (.tuple #[]) /\ w' = w.setCell ⟨b, 0, none⟩ (.pointer (some ⟨b, 0, none⟩)) := by
 have mixed : Tryz.prog.follows .mixedOrders = true := by kernel_rfl
 have t72 := Tryz.underlying56; have a72 := Tryz.isAgg56; have z72 := Tryz.sizeOf56; have v72 := Tryz.zeroValue56; have u72 := run_underlying Tryz.underlying56
 have t70 := Tryz.underlying54; have a70 := Tryz.isAgg54; have z70 := Tryz.sizeOf54; have v70 := Tryz.zeroValue54; have u70 := run_underlying Tryz.underlying54
 have t4 := Tryz.underlying4; have a4 := Tryz.isAgg4; have z4 := Tryz.sizeOf4; have v4 := Tryz.zeroValue4; have u4 := run_underlying Tryz.underlying4
 have t164 := Tryz.underlying136; have a164 := Tryz.isAgg136; have z164 := Tryz.sizeOf136; have v164 := Tryz.zeroValue136; have u164 := run_underlying Tryz.underlying136
 obtain ⟨j, hj, hjs⟩ : ∃ j, Tryz.prog.info? 56 = some j /\ j.size = 2 := ⟨_, rfl, by kernel_rfl⟩
 go_enter Tryz.func75, Tryz.ntmps75
 go_wp2
 rw [Lib.run_to_unsafe w ⟨b, 0, none⟩ t70 t164 hj (by rw [hjs]; decide) hsh (Nat.zero_lt_succ 1)]
 simp only [Result.andThen]
 rw [Oper.upon_value]
 go_wp2
 rw [run_callFunc_extern Tryz.func120 (by kernel_rfl) (by kernel_rfl) (by kernel_rfl) (e := Extern.AbiNoEscape.same) (by kernel_rfl)]
 rw [Lib.run_noEscape]
 simp only [Result.andThen]
 rw [Oper.upon_value]
 go_wp2
 rw [Lib.run_from_unsafe w ⟨b, 0, none⟩ t164 t70 hj hsh (by kernel_rfl)]
 simp only [Result.andThen]
 rw [Oper.upon_value]
 go_wp2
 go_end0
 exact ⟨rfl, rfl⟩
end Go.Proofs.YtdhbdhopnpmboaaGreatDoor
namespace Go.Av
open Go Go.RowKit
theorem fresh_ne {σ : AS} {b c : Nat} {z : List AV} (h : σ.box b = some z) (hc : σ.fresh c) : ¬ b = c /\ ¬ c = b := by
 have : ¬ b = c := fun e => by subst e; rw [hc.1] at h; cases h
 exact ⟨this, fun e => this e.symm⟩
theorem Tri.back {P : Program} {G : Nat -> AV} {f : FuncId} {args : List AV} {σ : AS} {Q : AV -> Prop} (h : Tri P G f args σ fun r σ' => Q r /\ σ.le σ') : Tri P G f args σ fun r σ' => Q r /\ σ' = σ :=
 ⟨h.1, fun K w vals hr hv => (h.2 K w vals hr hv).mono fun e w' ⟨v, r, σ', K', he, ⟨hQ, hl⟩, h1, h2, h3⟩ => ⟨v, r, σ, K', he, ⟨hQ, rfl⟩, h1, h2.weaken hl, h3⟩⟩
inductive WBuf (n : Nat) (E : TypeId) (σ0 σ : AS) : AV -> List AV -> Prop
 | nil (h : σ0.le σ) : WBuf n E σ0 σ .nil []
 | row (b : Nat) (xs : List AV) (h : σ0.le σ) (h0 : σ0.box b = none) (h1 : σ0.tip b = none) (hb : σ.box b = some (xs.flatMap flat)) (hx : ∀ a, a ∈ xs -> (flat a).length = n /\ isv a = true) : WBuf n E σ0 σ (.bs b xs.length n E) xs
theorem WBuf.le {n : Nat} {E : TypeId} {σ0 σ : AS} {v : AV} {xs : List AV} (h : WBuf n E σ0 σ v xs) : σ0.le σ := by cases h <;> assumption
theorem flatMap_len {n : Nat} : ∀ (xs : List AV), (∀ a, a ∈ xs -> (flat a).length = n) -> (xs.flatMap flat).length = xs.length * n
 | [], _ => by simp
 | x :: xs, h => by
  rw [List.flatMap_cons, List.length_append, h x (by simp), flatMap_len xs fun a ha => h a (by simp [ha]), List.length_cons, Nat.succ_mul, Nat.add_comm]
theorem AS.le.delSet {σ0 σ : AS} (h : σ0.le σ) {b b' : Nat} (hb : σ0.box b = none) (hb' : σ0.box b' = none) (z : List AV) : σ0.le ((σ.delBox b).setBox b' z) := by
 refine ⟨fun i cs hi => ?_, fun i m hi => h.tip _ _ hi, h.ty⟩
 have h1 : i ≠ b := fun e => by subst e; rw [hb] at hi; cases hi
 have h2 : i ≠ b' := fun e => by subst e; rw [hb'] at hi; cases hi
 show (if i = b' then _ else if i = b then none else σ.box i) = some cs
 rw [if_neg h2, if_neg h1]; exact h.box _ _ hi
theorem app_wbuf {P : Program} {n by_ : Nat} {σ0 σ : AS} {v x : AV} {xs ys : List AV} {t tx E : TypeId} {K : AV -> AS -> Prop} {d : Dum σ} {d' : Dum K} (hB : WBuf n E σ0 σ v xs) (he : aelt P t = some (E, n, by_)) (hs : asrc P tx x = some ys)
  (hys : ∀ a, a ∈ ys -> (Av.flat a).length = n /\ isv a = true) (hnil : v = .nil -> ys = []) (hb : (xs.length + ys.length) * by_ <= 140737488355328) (hK : ∀ v' σ', WBuf n E σ0 σ' v' (xs ++ ys) -> (v' = .nil -> v = .nil) -> K v' σ') : appW P σ t tx v x K d d' := by
 cases hB with
 | nil h =>
  have hy := hnil rfl
  subst hy
  refine .inl ?_
  unfold aappend
  rw [he, hs]
  refine ⟨fun a ha => (by cases ha), by simp, fun _ => hK _ _ (.nil h) (fun _ => rfl), fun hy => absurd rfl hy⟩
 | row b xs h h0 h1 hbx hx =>
  refine .inr (.inl ?_)
  unfold aappendM
  rw [he, hs]
  have hl := flatMap_len xs fun a ha => (hx a ha).1
  refine ⟨fun a ha => (hys a ha).1, ⟨rfl, rfl⟩, _, hbx, by rw [hl]; exact Nat.le_refl _, hb, fun b' hb' => ?_⟩
  have h0' : σ0.box b' = none /\ σ0.tip b' = none := by
   rcases hb' with rfl | hf
   ·exact ⟨h0, h1⟩
   ·exact ⟨(h.fresh hf).1, (h.fresh hf).2.1⟩
  have e1 : (xs.flatMap flat).take (xs.length * n) ++ ys.flatMap flat = (xs ++ ys).flatMap flat := by
   rw [List.take_of_length_le (by rw [hl]; exact Nat.le_refl _), List.flatMap_append]
  have hK' := hK (.bs b' (xs ++ ys).length n E) ((σ.delBox b).setBox b' ((xs ++ ys).flatMap flat)) (.row b' (xs ++ ys) (h.delSet h0 h0'.1 _) h0'.1 h0'.2 (by simp [AS.setBox]) fun a ha => by
   rcases List.mem_append.1 ha with ha | ha
   ·exact hx a ha
   ·exact hys a ha) (fun h => by cases h)
  rw [<- e1, List.length_append] at hK'
  exact hK'
theorem Tri.wbuf {P : Program} {G : Nat -> AV} {f : FuncId} {args : List AV} {σ : AS} {n : Nat} {E : TypeId} {xs : List AV} (h : Tri P G f args σ fun r σ' => WBuf n E σ σ' r xs) : Tri P G f args σ fun r σ' => Le r (.sl .none xs []) /\ σ' = σ := by
 refine Tri.back ⟨h.1, fun K w vals hr hv => (h.2 K w vals hr hv).mono fun e w' ⟨v, r, σ', K', he, hQ, h1, h2, h3⟩ => ?_⟩
 cases hQ with
 | nil hl => exact ⟨v, .nil, σ', K', he, ⟨Le.nil, hl⟩, h1, h2, h3⟩
 | row b xs hl h0 ht hb hx =>
  obtain ⟨cap, F, g1, g2, g3⟩ := (Has.bs (b := b) (n := xs.length) (s := n) (E := E)) K' v h1
  obtain ⟨K2, k1, k2, k3⟩ := freeze_world h2 hb ⟨rfl, rfl, hx⟩ g1 g2 g3
  exact ⟨v, _, _, K2, he, ⟨Le.gh, AS.froze_le hl h0 ht⟩, k3 _ _ _ (.here E) h1, k2, h3.trans k1⟩
end Go.Av
namespace Go.Av
open Go Go.RowKit
variable {P : Program} {e : Env} {σ : AS}
def aresk : Option AV -> Option (List AV) -> Option (List AV)
 | some x, some xs => some (x :: xs)
 | _, _ => none
theorem ares_cons2 {r s : ResultVar} {rs : List ResultVar} : ares P e σ (r :: s :: rs) = aresk (ares1 P e σ r) (ares P e σ (s :: rs)) := by
 rw [ares]; unfold aresk; rfl
theorem ares1_tmp {t : Tmp} : ares1 P e σ (.tmp t) = some (e t) := nr rfl
theorem ares1_cell {t : Tmp} {ty : TypeId} : ares1 P e σ (.cell t ty) = aload P σ ty (e t) := nr rfl
theorem aresk_some {x : AV} {xs : List AV} : aresk (some x) (some xs) = some (x :: xs) := nr rfl
end Go.Av
namespace Go.Av
open Go Go.RowKit
def notRow : AV -> Nat -> Prop
 | .bs r _ _ _, c => c ≠ r
 | _, _ => True
structure WApp (n : Nat) (E : TypeId) (σ0 σ : AS) (v : AV) (xs : List AV) (v' : AV) (σ' : AS) : Prop where
 buf : WBuf n E σ0 σ' v' xs
 keep : ∀ c z, σ.box c = some z -> notRow v c -> σ'.box c = some z /\ notRow v' c
 ty : σ'.ty = σ.ty
 ne : v' ≠ .nil -> v = .nil -> xs ≠ []
theorem app_wb {P : Program} {n by_ : Nat} {σ0 σ : AS} {v x : AV} {xs ys : List AV} {t tx E : TypeId} {K : AV -> AS -> Prop} {d : Dum σ} {d' : Dum K} (hB : WBuf n E σ0 σ v xs) (he : aelt P t = some (E, n, by_)) (hs : asrc P tx x = some ys)
  (hys : ∀ a, a ∈ ys -> (Av.flat a).length = n /\ isv a = true) (hb : (xs.length + ys.length) * by_ <= 140737488355328) (hK : ∀ v' σ', WApp n E σ0 σ v (xs ++ ys) v' σ' -> K v' σ') : appW P σ t tx v x K d d' := by
 cases hB with
 | nil h =>
  by_cases hy : ys = []
  ·subst hy
   refine .inl ?_
   unfold aappend
   rw [he, hs]
   refine ⟨fun a ha => (by cases ha), by simp, fun _ => hK _ _ ⟨.nil h, fun c z hc _ => ⟨hc, trivial⟩, rfl, fun hn => absurd rfl hn⟩, fun hy => absurd rfl hy⟩
  ·refine .inr (.inl ?_)
   unfold aappendM
   rw [he, hs]
   refine ⟨fun a ha => (hys a ha).1, hy, by simpa using hb, fun b hf => hK _ _ ⟨?_, fun c z hc _ => ?_, rfl, fun _ _ => by simpa using hy⟩⟩
   ·have hf0 := h.fresh hf
    exact .row b ys (h.setBox hf0.1 _) hf0.1 hf0.2.1 (by simp [AS.setBox]) hys
   ·have := fresh_ne hc hf
    exact ⟨by simp only [AS.setBox, if_neg this.1]; exact hc, this.1⟩
 | row b xs h h0 h1 hbx hx =>
  refine .inr (.inl ?_)
  unfold aappendM
  rw [he, hs]
  have hl := flatMap_len xs fun a ha => (hx a ha).1
  refine ⟨fun a ha => (hys a ha).1, ⟨rfl, rfl⟩, _, hbx, by rw [hl]; exact Nat.le_refl _, hb, fun b' hb' => ?_⟩
  have h0' : σ0.box b' = none /\ σ0.tip b' = none := by
   rcases hb' with rfl | hf
   ·exact ⟨h0, h1⟩
   ·exact ⟨(h.fresh hf).1, (h.fresh hf).2.1⟩
  have e1 : (xs.flatMap flat).take (xs.length * n) ++ ys.flatMap flat = (xs ++ ys).flatMap flat := by
   rw [List.take_of_length_le (by rw [hl]; exact Nat.le_refl _), List.flatMap_append]
  have hK' := hK (.bs b' (xs ++ ys).length n E) ((σ.delBox b).setBox b' ((xs ++ ys).flatMap flat)) ⟨.row b' (xs ++ ys) (h.delSet h0 h0'.1 _) h0'.1 h0'.2 (by simp [AS.setBox]) fun a ha => by
   rcases List.mem_append.1 ha with ha | ha
   ·exact hx a ha
   ·exact hys a ha, fun c z hc hn => by
    have h2 : c ≠ b' := by
     rcases hb' with rfl | hf
     ·exact hn
     ·exact (fresh_ne hc hf).1
    refine ⟨?_, h2⟩
    show (if c = b' then _ else if c = b then none else σ.box c) = some z
    rw [if_neg h2, if_neg hn]; exact hc, rfl, fun _ hn => by cases hn⟩
  rw [<- e1, List.length_append] at hK'
  exact hK'
theorem WBuf.setOther {n : Nat} {E : TypeId} {σ0 σ : AS} {v : AV} {xs : List AV} (h : WBuf n E σ0 σ v xs) {b : Nat} (hb : σ0.box b = none) (hn : notRow v b) (z : List AV) : WBuf n E σ0 (σ.setBox b z) v xs := by
 cases h with
 | nil h => exact .nil (h.setBox hb z)
 | row r xs h h0 h1 hbx hx => exact .row r xs (h.setBox hb z) h0 h1 (by simp only [AS.setBox, if_neg (Ne.symm hn)]; exact hbx) hx
theorem Tri.tupBs {P : Program} {G : Nat -> AV} {f : FuncId} {args : List AV} {σ : AS} {n s : Nat} {E : TypeId} {xs rest : List AV} (hx : ∀ a, a ∈ xs -> (flat a).length = s /\ isv a = true) (hn : xs.length = n)
  (h : Tri P G f args σ fun r σ' => ∃ b, r = .tup (.bs b n s E :: rest) /\ σ.le σ' /\ σ.box b = none /\ σ.tip b = none /\ σ'.box b = some (xs.flatMap flat)) : Tri P G f args σ fun r σ' => Le r (.tup (.sl .none xs [] :: rest)) /\ σ' = σ := by
 refine Tri.back (Tri.freezeRes h fun r σ' ⟨b, hr, hl, h0, h1, h2⟩ => ?_)
 subst hr
 refine ⟨b, n, s, xs, _, .tup (.sl (.own b) xs [] :: rest), h2, ⟨hn, rfl, hx⟩, Has.tup 0 (by simp) Has.bs, .tup _ _ (by simp) (fun j g1 g2 => ?_), Le.tup (.cons Le.gh (Les.refl rest)), AS.froze_le hl h0 h1⟩
 cases j with
 | zero => exact .here E
 | succ j => exact .same _
theorem WBuf.newBox {n : Nat} {E : TypeId} {σ0 σ : AS} {v : AV} {xs : List AV} (h : WBuf n E σ0 σ v xs) {c : Nat} (hc : σ.fresh c) (z : List AV) : WBuf n E σ0 (σ.setBox c z) v xs /\ notRow v c := by
 have hc0 := h.le.fresh hc
 have hn : notRow v c := by
  cases h with
  | nil _ => trivial
  | row r xs h h0 h1 hbx hx => exact (fresh_ne hbx hc).2
 exact ⟨h.setOther hc0.1 hn z, hn⟩
theorem WBuf.len {P : Program} {n : Nat} {E : TypeId} {σ0 σ : AS} {v : AV} {xs : List AV} (h : WBuf n E σ0 σ v xs) {t : TypeId} : ablt P .len #[t] [v] = if (el P t).isSome then some (.int .i64 xs.length) else none := by
 cases h with
 | nil _ => rw [l_nil]; rfl
 | row r xs h h0 h1 hbx hx => rw [l_bs]
theorem WBuf.form {n : Nat} {E : TypeId} {σ0 σ : AS} {v : AV} {xs : List AV} (h : WBuf n E σ0 σ v xs) (hne : xs ≠ []) : ∃ r, v = .bs r xs.length n E /\ σ.box r = some (xs.flatMap flat) /\ σ0.box r = none /\ σ0.tip r = none := by
 cases h with
 | nil _ => exact absurd rfl hne
 | row r xs h h0 h1 hbx hx => exact ⟨r, rfl, hbx, h0, h1⟩
def byteA (c : UInt8) : AV := .int .u8 c.toNat
def bytesA (s : List UInt8) : List AV := s.map byteA
theorem flat_bytesA (s : List UInt8) : (bytesA s).flatMap flat = bytesA s := by
 induction s with
 | nil => rfl
 | cons c s ih => simp only [bytesA, List.map_cons, List.flatMap_cons] at ih ⊢; rw [ih]; rfl
theorem bytes_ok (s : List UInt8) : ∀ a, a ∈ bytesA s -> (flat a).length = 1 /\ isv a = true := fun a ha => by
 obtain ⟨c, _, rfl⟩ := List.mem_map.1 ha
 exact ⟨rfl, rfl⟩
structure Bld (T E : TypeId) (σ0 σ : AS) (b : Nat) (xs : List UInt8) : Prop where
 le : σ0.le σ
 out : σ0.box b = none
 ty : σ.ty b = some ((T : TyE), 2)
 box : ∃ p v, σ.box b = some [p, v] /\ (p = .nilptr \/ p = .ptr b 0) /\ WBuf 1 E σ0 σ v (bytesA xs) /\ notRow v b /\ (v ≠ .nil -> xs ≠ [])
theorem AS.le.newBase {σ0 σ : AS} (h : σ0.le σ) (c : Nat) (z : List AV) : (σ0.setBox c z).le (σ.setBox c z) := by
 refine ⟨fun i cs hi => ?_, h.tip, h.ty⟩
 simp only [AS.setBox] at hi ⊢
 split
 ·rename_i e; rw [if_pos e] at hi; exact hi
 ·rename_i e; rw [if_neg e] at hi; exact h.box _ _ hi
theorem Bld.newBox {T E : TypeId} {σ0 σ : AS} {b : Nat} {xs : List UInt8} (h : Bld T E σ0 σ b xs) {c : Nat} (hc : σ.fresh c) (z : List AV) : Bld T E (σ0.setBox c z) (σ.setBox c z) b xs := by
 obtain ⟨p, v, h1, h2, h3, h4, h5⟩ := h.box
 have hbc := fresh_ne h1 hc
 refine ⟨h.le.newBase c z, by simp only [AS.setBox, if_neg hbc.1]; exact h.out, h.ty, p, v, by simp only [AS.setBox, if_neg hbc.1]; exact h1, h2, ?_, h4, h5⟩
 revert h3
 generalize bytesA xs = l
 intro h3
 cases h3 with
 | nil _ => exact .nil (h.le.newBase c z)
 | row r xs' h' g0 g1 gb gx =>
  have hrc := fresh_ne gb hc
  exact .row r _ (h.le.newBase c z) (by simp only [AS.setBox, if_neg hrc.1]; exact g0) g1 (by simp only [AS.setBox, if_neg hrc.1]; exact gb) gx
theorem Bld.weaken {T E : TypeId} {σ0 σ1 σ : AS} {b : Nat} {xs : List UInt8} (h : Bld T E σ1 σ b xs) (hl : σ0.le σ1) : Bld T E σ0 σ b xs := by
 obtain ⟨p, v, h1, h2, h3, h4, h5⟩ := h.box
 have none_of : ∀ i, σ1.box i = none -> σ0.box i = none := fun i hi => by
  cases e : σ0.box i with
  | none => rfl
  | some z => rw [hl.box _ _ e] at hi; cases hi
 have none_tip : ∀ i, σ1.tip i = none -> σ0.tip i = none := fun i hi => by
  cases e : σ0.tip i with
  | none => rfl
  | some z => rw [hl.tip _ _ e] at hi; cases hi
 refine ⟨hl.trans h.le, none_of _ h.out, h.ty, p, v, h1, h2, ?_, h4, h5⟩
 revert h3
 generalize bytesA xs = l
 intro h3
 cases h3 with
 | nil _ => exact .nil (hl.trans h.le)
 | row r xs' h' g0 g1 gb gx => exact .row r _ (hl.trans h.le) (none_of _ g0) (none_tip _ g1) gb gx
theorem Bld.start {T E : TypeId} {σ0 σ : AS} {b : Nat} (hl : σ0.le σ) (hf : σ.fresh b) : Bld T E σ0 ((σ.setBox b [.nilptr, .nil]).setTy b (T, 2)) b [] := by
 have hf0 := hl.fresh hf
 refine ⟨?_, hf0.1, by simp [AS.setTy], .nilptr, .nil, by simp [AS.setBox, AS.setTy], .inl rfl, .nil ?_, trivial, fun h => absurd rfl h⟩
 ·exact (hl.setBox hf0.1 _).setTy hf0.2.2 _
 ·exact (hl.setBox hf0.1 _).setTy hf0.2.2 _
theorem Bld.push {T E : TypeId} {σ0 σ σ' : AS} {b : Nat} {xs ys : List UInt8} {v v' : AV} (h : Bld T E σ0 σ b xs) (hb : σ.box b = some [.ptr b 0, v]) (hn : notRow v b) (ha : WApp 1 E σ0 σ v (bytesA xs ++ bytesA ys) v' σ') (hx : v ≠ .nil -> xs ≠ []) : Bld T E σ0 (σ'.setBox b [.ptr b 0, v']) b (xs ++ ys) := by
 obtain ⟨h1, h2⟩ := ha.keep b _ hb hn
 have e : bytesA xs ++ bytesA ys = bytesA (xs ++ ys) := by simp [bytesA]
 refine ⟨ha.buf.le.setBox h.out _, h.out, by show σ'.ty b = _; rw [ha.ty]; exact h.ty, .ptr b 0, v', by simp [AS.setBox], .inr rfl, ?_, h2, fun hv' => ?_⟩
 ·rw [<- e]; exact ha.buf.setOther h.out h2 _
 ·by_cases hv : v = .nil
  ·have := ha.ne hv' hv
   intro hh
   rw [e, hh] at this
   exact this rfl
  ·intro hh
   exact hx hv (List.append_eq_nil_iff.1 hh).1
end Go.Av
set_option maxRecDepth 100000
namespace Go.Proofs.YtdhbdhopnpmboaaGreatDoor
open Go Go.Av
theorem tf58 : tk Tryz.prog 58 = some (false, 1) /\ sk Tryz.prog 58 = .oth /\ (Tryz.prog.underlying 58).isSome = true /\ el Tryz.prog 58 = none /\ by_ Tryz.prog 58 = some 16 /\ ifc Tryz.prog 58 = true := ⟨by kernel_rfl, by kernel_rfl, by kernel_rfl, by kernel_rfl, by kernel_rfl, by kernel_rfl⟩
theorem tf107 : tk Tryz.prog 107 = some (false, 1) /\ sk Tryz.prog 107 = .ptr 5 /\ (Tryz.prog.underlying 107).isSome = true /\ el Tryz.prog 107 = none /\ zc Tryz.prog 107 = some [.nilptr] /\ by_ Tryz.prog 107 = some 8 := ⟨by kernel_rfl, by kernel_rfl, by kernel_rfl, by kernel_rfl, by kernel_rfl, by kernel_rfl⟩
end Go.Proofs.YtdhbdhopnpmboaaGreatDoor
set_option maxRecDepth 20000
namespace Go.Proofs.YtdhbdhopnpmboaaGreatDoor
open Go Go.Av
def tbBld := And.intro (And.intro (And.intro @tf3 @tf4) (And.intro @tf5 @tf9)) (And.intro (And.intro @tf45 @tf54) (And.intro @tf56 (And.intro @tf58 @tf107)))
variable (G : Nat -> AV)
abbrev Bl (σ0 σ : AS) (b : Nat) (xs : List UInt8) : Prop := Bld 56 5 σ0 σ b xs
theorem check_tri {σ : AS} {b : Nat} {p v : AV} (hb : σ.box b = some [p, v]) (ht : σ.ty b = some (.t 56, 2)) (hp : p = .nilptr \/ p = .ptr b 0) :
  Tri Tryz.prog G 75 [.ptr b 0] σ fun r σ' => r = .tup [] /\ σ' = σ.setBox b [.ptr b 0, v] := by
 refine ⟨by kernel_rfl, fun K w vals hr hv => ?_⟩
 match vals, hv with
 | [x], ⟨hx, _⟩ =>
  rw [VR.ptr_iff] at hx
  subst hx
  obtain ⟨k1, k2, k3, k4, k5, c, E, hc, hl, hcv⟩ := hr.box b _ hb
  obtain ⟨c2, fz, hc2, hn2⟩ := hr.ty b _ _ ht
  rw [hc] at hc2
  simp only [Option.some.injEq, Obj.cells.injEq] at hc2
  obtain ⟨rfl, rfl, rfl⟩ := hc2
  have h0 := hcv 0 (by simp)
  have h1 := hcv 1 (by simp)
  simp only [List.getElem_cons_zero, List.getElem_cons_succ] at h0 h1
  have hsz : c.size = 2 := hn2
  have hcell : w.cell? ⟨b, 0, none⟩ = some (c.getD 0 Go.undef) := by
   rw [Lib.cell_of_heap hc]
   simp [hsz]
  rcases hp with rfl | rfl
  ·rw [VR.nilptr_iff] at h0
   rw [h0] at hcell
   refine (copyCheck_fresh b w hcell (by simp [World.shape?, hc, hsz]) (by simp [World.frozen?, hc])).mono ?_
   rintro e w' ⟨rfl, rfl⟩
   refine ⟨_, .tup [], _, K, rfl, ⟨rfl, rfl⟩, .tup [] #[] rfl (fun j h => by cases h), ?_, Ctx.le.refl K⟩
   have e1 : w.setCell ⟨b, 0, none⟩ (.pointer (some ⟨b, 0, none⟩)) = w.setRow b (c.setIfInBounds 0 (.pointer (some ⟨b, 0, none⟩))) := by
    exact setCell_eq_setRow w b 0 c _ _ _ hc
   rw [e1]
   refine hr.setBox hb hc _ (by simp) (by simp [hsz]) (fun a ha => ?_) (fun j hj => ?_)
   ·simp at ha
    rcases ha with rfl | rfl
    ·rfl
    ·exact k5 _ (by simp)
   ·match j, hj with
    | 0, _ => simp [hsz]; exact .ptr b 0
    | 1, _ => simp only [List.getElem_cons_succ, List.getElem_cons_zero]; rw [show (c.setIfInBounds 0 (Value.pointer (some ⟨b, 0, none⟩))).getD 1 Go.undef = c.getD 1 Go.undef by simp [Array.getD_eq_getD_getElem?]]; exact h1
  ·rw [VR.ptr_iff] at h0
   rw [h0] at hcell
   refine (copyCheck_used b w hcell).mono ?_
   rintro e w' ⟨rfl, rfl⟩
   exact ⟨_, .tup [], σ, K, rfl, ⟨rfl, (setBox_id hb).symm⟩, .tup [] #[] rfl (fun j h => by cases h), hr, Ctx.le.refl K⟩
theorem tfB : aelt Tryz.prog 45 = some (5, 1, 1) := tf45.2.2.2.2.2.2
theorem tfBE : el Tryz.prog 45 = some 5 := tf45.2.2.2.1
theorem bytesA_len (xs : List UInt8) : (bytesA xs).length = xs.length := by simp [bytesA]
theorem isv_byteA (c : UInt8) : isv (byteA c) = true := rfl
theorem flat_byteA (c : UInt8) : flat (byteA c) = [byteA c] := rfl
theorem buf_flat {σ0 σ : AS} {v : AV} {l : List AV} (h : WBuf 1 5 σ0 σ v l) : flat v = [v] := by cases h <;> rfl
theorem buf_isv {σ0 σ : AS} {v : AV} {l : List AV} (h : WBuf 1 5 σ0 σ v l) : isv v = true := by cases h <;> rfl
theorem writeByte_tri {σ0 σ : AS} {b : Nat} {xs : List UInt8} (h : Bl σ0 σ b xs) (hl : xs.length <= 1000000000) (c : UInt8) :
  Tri Tryz.prog G 42 [.ptr b 0, byteA c] σ fun r σ' => Bl σ0 σ' b (xs ++ [c]) := by
 obtain ⟨p, v, h1, h2, h3, h4, h5⟩ := h.box
 have hc := check_tri G (v := v) h1 h.ty h2
 have h3' := h3.setOther h.out h4 [.ptr b 0, v]
 have hB' : Bl σ0 (σ.setBox b [.ptr b 0, v]) b xs := ⟨h.le.setBox h.out _, h.out, h.ty, _, v, by simp [AS.setBox], .inr rfl, h3', h4, h5⟩
 have hbx : (σ.setBox b [.ptr b 0, v]).box b = some [.ptr b 0, v] := by simp [AS.setBox]
 generalize σ.setBox b [.ptr b 0, v] = σ1 at *
 refine Tri.of_awp mixed Tryz.func42 rfl (by kernel_rfl) (by kernel_rfl) (by simp [Tryz.ntmps42]) Tryz.results42 ?_
 repeat' (first | refine xs ?_ ?_ <;> intros | (refine wn ?_; intro bx hbx; try simp only [fb] at hbx) | ((refine Tri.mono hc ?_; rintro r s ⟨rfl, rfl⟩)) | ((refine app_wb (ys := bytesA [c]) h3' tfB (asrc_sl tfBE) (bytes_ok [c]) (by rw [bytesA_len, bytesA_len]; simp; omega) (fun v2 s2 ha => ?_); have k1 := (ha.keep b _ hbx h4).1; have k2 := buf_flat ha.buf; have k3 := buf_isv ha.buf)) | refine wj ?_ | simp -dsimp only [↓bp, bq, br, seval, tbBld, byteA, *] | refine wz ?_ | fail)
 exact finishW_some _ (AS.le.refl _) (hB'.push hbx h4 ha h5)
theorem asrc_bytes (s : List UInt8) : asrc Tryz.prog 9 (.str s) = some (bytesA s) := asrc_str tf9.2.1
theorem writeString_tri {σ0 σ : AS} {b : Nat} {xs : List UInt8} (h : Bl σ0 σ b xs) (ys : List UInt8) (hl : xs.length + ys.length <= 1000000000000) :
  Tri Tryz.prog G 41 [.ptr b 0, .str ys] σ fun r σ' => Bl σ0 σ' b (xs ++ ys) := by
 obtain ⟨p, v, h1, h2, h3, h4, h5⟩ := h.box
 have hc := check_tri G (v := v) h1 h.ty h2
 have h3' := h3.setOther h.out h4 [.ptr b 0, v]
 have hB' : Bl σ0 (σ.setBox b [.ptr b 0, v]) b xs := ⟨h.le.setBox h.out _, h.out, h.ty, _, v, by simp [AS.setBox], .inr rfl, h3', h4, h5⟩
 have hbx : (σ.setBox b [.ptr b 0, v]).box b = some [.ptr b 0, v] := by simp [AS.setBox]
 generalize σ.setBox b [.ptr b 0, v] = σ1 at *
 refine Tri.of_awp mixed Tryz.func41 rfl (by kernel_rfl) (by kernel_rfl) (by simp [Tryz.ntmps41]) Tryz.results41 ?_
 repeat' (first | refine xs ?_ ?_ <;> intros | (refine wn ?_; intro bx hbx; try simp only [fb] at hbx) | ((refine Tri.mono hc ?_; rintro r s ⟨rfl, rfl⟩)) | ((refine app_wb (ys := bytesA ys) h3' tfB (asrc_bytes ys) (bytes_ok ys) (by rw [bytesA_len, bytesA_len]; omega) (fun v2 s2 ha => ?_); have k1 := (ha.keep b _ hbx h4).1; have k2 := buf_flat ha.buf; have k3 := buf_isv ha.buf)) | refine wj ?_ | simp -dsimp only [↓bp, bq, br, seval, tbBld, *] | refine wz ?_ | fail)
 exact finishW_some _ (AS.le.refl _) (hB'.push hbx h4 ha h5)
theorem string_tri {σ0 σ : AS} {b : Nat} {xs : List UInt8} (h : Bl σ0 σ b xs) (hl : xs.length <= 1000000000000) :
  Tri Tryz.prog G 48 [.ptr b 0] σ fun r σ' => r = .str xs /\ σ' = σ0 := by
 obtain ⟨p, v, h1, h2, h3, h4, h5⟩ := h.box
 revert h3
 generalize hbs : bytesA xs = bs
 intro h3
 cases h3 with
 | nil hle =>
  have hx : xs = [] := by cases xs with | nil => rfl | cons _ _ => cases hbs
  subst hx
  clear h5
  refine Tri.of_awp mixed Tryz.func48 rfl (by kernel_rfl) (by kernel_rfl) (by simp [Tryz.ntmps48]) Tryz.results48 ?_
  repeat' (first | refine xs ?_ ?_ <;> intros | (refine wn ?_; intro bx hbx; try simp only [fb] at hbx) | refine wj ?_ | simp -dsimp only [↓bp, bq, br, seval, tbBld, *] | refine wz ?_ | fail) | row r _ hle g0 g1 gb gx =>
  have hne : xs ≠ [] := h5 (by simp)
  have hlen : bs.length = xs.length := by rw [<- hbs, bytesA_len]
  have hp : (0 : Int) < bs.length := by rw [hlen]; have := List.length_pos_iff.2 hne; omega
  have hp' : 0 < bs.length := by omega
  have gb' : σ.box r = some (xs.map fun c => .int .u8 c.toNat) := by rw [gb, <- hbs, flat_bytesA]; rfl
  clear h5 gx
  have hdel : σ0.le (σ.delBox r) := ⟨fun i cs hi => by
   have hne : i ≠ r := fun e => by subst e; rw [g0] at hi; cases hi
   show (if i = r then none else σ.box i) = some cs
   rw [if_neg hne]; exact h.le.box _ _ hi, fun i m hi => h.le.tip _ _ hi, h.le.ty⟩
  refine Tri.of_awp mixed Tryz.func48 rfl (by kernel_rfl) (by kernel_rfl) (by simp [Tryz.ntmps48]) Tryz.results48 ?_
  repeat' (first | refine xs ?_ ?_ <;> intros | (refine wn ?_; intro bx hbx; try simp only [fb] at hbx) | (refine ustrW_row (E := 5) (l := xs) tf107.2.1 (by kernel_rfl) gb' hne rfl ?_) | refine wj ?_ | simp -dsimp only [↓bp, bq, br, seval, tbBld, *] | refine wz ?_ | fail)
  all_goals skip
end Go.Proofs.YtdhbdhopnpmboaaGreatDoor
namespace Go.Proofs.YtdhbdhopnpmboaaGreatDoor
open Go Go.Av
inductive Term where
 | mk (kind : UInt8) (neg : Bool) (limbs : List UInt32) (text : List UInt8) (num : Int) (items tail : List Term)
instance : Inhabited Term := ⟨.mk 0 false [] [] 0 [] []⟩
def Term.kind : Term -> UInt8 | .mk k _ _ _ _ _ _ => k
def Term.neg : Term -> Bool | .mk _ g _ _ _ _ _ => g
def Term.limbs : Term -> List UInt32 | .mk _ _ l _ _ _ _ => l
def Term.text : Term -> List UInt8 | .mk _ _ _ s _ _ _ => s
def Term.num : Term -> Int | .mk _ _ _ _ n _ _ => n
def Term.items : Term -> List Term | .mk _ _ _ _ _ ks _ => ks
def Term.tail : Term -> List Term | .mk _ _ _ _ _ _ ts => ts
def Term.knd (t : Term) : Int := t.kind.toNat
theorem Term.knd_nn (t : Term) : 0 <= t.knd := Int.natCast_nonneg _
def limA (x : UInt32) : AV := .int .u32 x.toNat
def lims (l : List UInt32) : AV := .sl .none (l.map limA) []
instance {l : List UInt32} : NotBs (lims l) := ⟨fun _ _ _ _ h => by unfold lims at h; cases h⟩
def Term.enc : Term -> AV
 | .mk k g l s n ks ts => .agg [.int .u8 k.toNat, .bool g, lims l, .str s, .int .i64 n, .sl .none (ks.map Term.enc) [], .sl .none (ts.map Term.enc) []]
def encs (l : List Term) : AV := .sl .none (l.map Term.enc) []
instance {l : List Term} : NotBs (encs l) := ⟨fun _ _ _ _ h => by unfold encs at h; cases h⟩
theorem Term.flat_enc (t : Term) : flat t.enc = [.int .u8 t.knd, .bool t.neg, lims t.limbs, .str t.text, .int .i64 t.num, encs t.items, encs t.tail] := by
 cases t; simp [Term.enc, flat, Term.knd, Term.kind, Term.neg, Term.limbs, Term.text, Term.num, Term.items, Term.tail, encs]
theorem Term.isv_enc (t : Term) : isv t.enc = true := by cases t; simp [Term.enc, isv]
theorem Term.fold_enc (t : Term) : AV.agg [.int .u8 t.knd, .bool t.neg, lims t.limbs, .str t.text, .int .i64 t.num, encs t.items, encs t.tail] = t.enc := by
 cases t; simp [Term.enc, Term.knd, Term.kind, Term.neg, Term.limbs, Term.text, Term.num, Term.items, Term.tail, encs]
theorem isv_encs (l : List Term) : isv (encs l) = true := rfl
theorem flat_encs (l : List Term) : flat (encs l) = [encs l] := rfl
theorem isv_lims (l : List UInt32) : isv (lims l) = true := rfl
theorem flat_lims (l : List UInt32) : flat (lims l) = [lims l] := rfl
theorem len_encs {P : Program} {t : TypeId} (l : List Term) : ablt P .len #[t] [encs l] = if (el P t).isSome then some (.int .i64 l.length) else none := by
 simp [encs, l_sl]
theorem len_lims {P : Program} {t : TypeId} (l : List UInt32) : ablt P .len #[t] [lims l] = if (el P t).isSome then some (.int .i64 l.length) else none := by
 simp [lims, l_sl]
theorem ix_encs {P : Program} {t : TypeId} {k : IntKind} (l : List Term) (i : Nat) : aindexA P t (encs l) (.int k (i : Int)) = ixk ((el P t).bind (tk P)) ((l[i]?).map Term.enc) := by
 simp [encs, aindexA_sl]
theorem ix_encs' {P : Program} {t : TypeId} {k : IntKind} (l : List Term) (i : Int) (h : 0 <= i) : aindexA P t (encs l) (.int k i) = ixk ((el P t).bind (tk P)) ((l[i.toNat]?).map Term.enc) := by
 simp [encs, aindexA_sl, h]
theorem ix_lims {P : Program} {t : TypeId} {k : IntKind} (l : List UInt32) (i : Nat) : aindexA P t (lims l) (.int k (i : Int)) = ixk ((el P t).bind (tk P)) ((l[i]?).map limA) := by
 simp [lims, aindexA_sl]
theorem ix_lims' {P : Program} {t : TypeId} {k : IntKind} (l : List UInt32) (i : Int) (h : 0 <= i) : aindexA P t (lims l) (.int k i) = ixk ((el P t).bind (tk P)) ((l[i.toNat]?).map limA) := by
 simp [lims, aindexA_sl, h]
theorem flat_limA (x : UInt32) : flat (limA x) = [limA x] := rfl
theorem Term.ind {P : Term -> Prop} (h : ∀ t, (∀ k, k ∈ t.items -> P k) -> (∀ k, k ∈ t.tail -> P k) -> P t) : ∀ t, P t := by
 have key : ∀ n, ∀ t : Term, SizeOf.sizeOf t <= n -> P t := by
  intro n
  induction n with
  | zero => intro t ht; cases t; simp at ht
  | succ n ih =>
   intro t ht
   cases t with
   | mk a b c d e ks ts =>
    refine h _ (fun k hk => ih k ?_) (fun k hk => ih k ?_)
    ·have := List.sizeOf_lt_of_mem (show k ∈ ks from hk)
     simp at ht
     omega
    ·have := List.sizeOf_lt_of_mem (show k ∈ ts from hk)
     simp at ht
     omega
 exact fun t => key _ t (Nat.le_refl _)
mutual
def Term.bulk : Term -> Nat
 | .mk _ _ l s _ ks ts => l.length + s.length + bulks ks + bulks ts + 1
def bulks : List Term -> Nat
 | [] => 0
 | k :: ks => k.bulk + bulks ks
end
theorem Term.bulk_eq (t : Term) : t.bulk = t.limbs.length + t.text.length + bulks t.items + bulks t.tail + 1 := by cases t; simp [Term.bulk, Term.limbs, Term.text, Term.items, Term.tail]
theorem bulk_mem {l : List Term} {k : Term} (h : k ∈ l) : k.bulk <= bulks l := by
 induction l with
 | nil => cases h
 | cons x l ih =>
  simp only [bulks]
  rcases List.mem_cons.1 h with rfl | h
  ·omega
  ·have := ih h; omega
theorem bulks_append (l r : List Term) : bulks (l ++ r) = bulks l + bulks r := by
 induction l with
 | nil => simp [bulks]
 | cons x l ih => simp only [List.cons_append, bulks, ih]; omega
theorem len_le_bulks (l : List Term) : l.length <= bulks l := by
 induction l with
 | nil => simp [bulks]
 | cons x l ih => have := x.bulk_eq; simp only [List.length_cons, bulks]; omega
theorem bulk_item {k t : Term} (h : k ∈ t.items) : k.bulk < t.bulk := by
 have := bulk_mem h; have := t.bulk_eq; omega
theorem bulk_tail {k t : Term} (h : k ∈ t.tail) : k.bulk < t.bulk := by
 have := bulk_mem h; have := t.bulk_eq; omega
theorem len_items (t : Term) : t.items.length < t.bulk := by
 have := len_le_bulks t.items; have := t.bulk_eq; omega
theorem len_tail (t : Term) : t.tail.length < t.bulk := by
 have := len_le_bulks t.tail; have := t.bulk_eq; omega
theorem len_limbs (t : Term) : t.limbs.length < t.bulk := by
 have := t.bulk_eq; omega
theorem len_text (t : Term) : t.text.length < t.bulk := by
 have := t.bulk_eq; omega
theorem wrap_nat {x : Int} (h0 : -9223372036854775808 <= x) (h1 : x <= 9223372036854775807) : IntKind.i64.wrap x = x := by
 rw [IntKind.wrap_i64]; omega
theorem take_succ_get {α : Type} (l : List α) (i : Nat) (x : α) (h : l[i]? = some x) : l.take (i + 1) = l.take i ++ [x] := by
 rw [List.take_add_one, h]; rfl
theorem drop_get {α : Type} (l : List α) (i : Nat) (x : α) (h : l[i]? = some x) : l.drop i = x :: l.drop (i + 1) := by
 obtain ⟨hi, rfl⟩ := List.getElem?_eq_some_iff.1 h
 exact List.drop_eq_getElem_cons hi
theorem flat7 {l : List Term} : ∀ a, a ∈ l.map Term.enc -> (flat a).length = 7 := fun a ha => by
 obtain ⟨x, _, rfl⟩ := List.mem_map.1 ha
 rw [x.flat_enc]; rfl
theorem flat1 {l : List UInt32} : ∀ a, a ∈ l.map limA -> (flat a).length = 1 := fun a ha => by
 obtain ⟨x, _, rfl⟩ := List.mem_map.1 ha
 rfl
theorem ones (t : Term) : ∀ d, d ∈ flat t.enc -> Av.one d = true := fun d hd => by rw [t.flat_enc] at hd; simp at hd; rcases hd with rfl | rfl | rfl | rfl | rfl | rfl | rfl <;> rfl
theorem sl_encs {P : Program} {t : TypeId} (l : List Term) (lo hi : Option AV) (ht : ((el P t).bind (tk P)) = some (true, 7)) : aslice P t (encs l) lo hi = match abnd lo 0, abnd hi l.length with
  | some a, some b => if a <= b /\ b <= l.length then some (encs ((l.take b).drop a)) else none
  | _, _ => none := by
 unfold encs
 rw [aslice_sl, ht, List.length_map]
 cases abnd lo 0 with
 | none => cases abnd hi l.length <;> rfl
 | some a =>
  cases abnd hi l.length with
  | none => rfl
  | some b =>
   rw [slk_plain flat7]
   simp only [List.length_map, List.map_drop, List.map_take]
theorem sl_lims {P : Program} {t : TypeId} (l : List UInt32) (lo hi : Option AV) (ht : ((el P t).bind (tk P)) = some (false, 1)) : aslice P t (lims l) lo hi = match abnd lo 0, abnd hi l.length with
  | some a, some b => if a <= b /\ b <= l.length then some (lims ((l.take b).drop a)) else none
  | _, _ => none := by
 unfold lims
 rw [aslice_sl, ht, List.length_map]
 cases abnd lo 0 with
 | none => cases abnd hi l.length <;> rfl
 | some a =>
  cases abnd hi l.length with
  | none => rfl
  | some b =>
   rw [slk_plain flat1]
   simp only [List.length_map, List.map_drop, List.map_take]
end Go.Proofs.YtdhbdhopnpmboaaGreatDoor
