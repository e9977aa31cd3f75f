/- strings.Builder: bytes and texts put behind what it holds; what it holds. -/
import Derived.Test.YtjmdaeabllkgnaaGreatDoorZ11
import Derived.Laws.Tables
set_option linter.unusedVariables false
set_option linter.unusedSimpArgs false
set_option maxRecDepth 20000
set_option linter.defProp false
namespace Go.Proofs.YtjmdaeabllkgnaaGreatDoor
open Go Go.Av
section
def tbBld := And.intro (And.intro (And.intro @tf3 @tf4) (And.intro @tf5 @tf9)) (And.intro (And.intro @tf54 @tf145) (And.intro @tf147 (And.intro @tf150 @tf243)))
variable (G : Nat → AV)
abbrev Bl (σ0 σ : AS) (b : Nat) (xs : List UInt8) : Prop := Bld 147 5 σ0 σ b xs
theorem check_tri {σ : AS} {b : Nat} {p v : AV} (hb : σ.box b = some [p, v]) (ht : σ.ty b = some (.t 147, 2)) (hp : p = .nilptr ∨ p = .ptr b 0) :
  Tri Tryz.prog G 175 [.ptr b 0] σ fun r σ' => r = .tup [] ∧ σ' = σ.setBox b [.ptr b 0, v] := by
 refine ⟨by kernel_rfl, fun K w vals hr hv => ?_⟩
 match vals, hv with
 | [x], ⟨hx, _⟩ =>
  rw [VR.ptr_iff] at hx
  subst hx
  obtain ⟨k1, k2, k3, k4, k5, c, E, hc, hl, hcv⟩ := hr.box b _ hb
  obtain ⟨c2, fz, hc2, hn2⟩ := hr.ty b _ _ ht
  rw [hc] at hc2
  simp only [Option.some.injEq, Obj.cells.injEq] at hc2
  obtain ⟨rfl, rfl, rfl⟩ := hc2
  have h0 := hcv 0 (by simp)
  have h1 := hcv 1 (by simp)
  simp only [List.getElem_cons_zero, List.getElem_cons_succ] at h0 h1
  have hsz : c.size = 2 := hn2
  have hcell : w.cell? ⟨b, 0, none⟩ = some (c.getD 0 Go.undef) := by
   rw [Lib.cell_of_heap hc]
   simp [hsz]
  rcases hp with rfl | rfl
  ·rw [VR.nilptr_iff] at h0
   rw [h0] at hcell
   refine (copyCheck_fresh b w hcell (by simp [World.shape?, hc, hsz]) (by simp [World.frozen?, hc])).mono ?_
   rintro e w' ⟨rfl, rfl⟩
   refine ⟨_, .tup [], _, K, rfl, ⟨rfl, rfl⟩, .tup [] #[] rfl (fun j h => by cases h), ?_, Ctx.le.refl K⟩
   have e1 : w.setCell ⟨b, 0, none⟩ (.pointer (some ⟨b, 0, none⟩)) = w.setRow b (c.setIfInBounds 0 (.pointer (some ⟨b, 0, none⟩))) := by
    exact setCell_eq_setRow w b 0 c _ _ _ hc
   rw [e1]
   refine hr.setBox hb hc _ (by simp) (by simp [hsz]) (fun a ha => ?_) (fun j hj => ?_)
   ·simp at ha
    rcases ha with rfl | rfl
    ·rfl
    ·exact k5 _ (by simp)
   ·match j, hj with
    | 0, _ => simp [hsz]; exact .ptr b 0
    | 1, _ => simp only [List.getElem_cons_succ, List.getElem_cons_zero]; rw [show (c.setIfInBounds 0 (Value.pointer (some ⟨b, 0, none⟩))).getD 1 Go.undef = c.getD 1 Go.undef by simp [Array.getD_eq_getD_getElem?]]; exact h1
  ·rw [VR.ptr_iff] at h0
   rw [h0] at hcell
   refine (copyCheck_used b w hcell).mono ?_
   rintro e w' ⟨rfl, rfl⟩
   exact ⟨_, .tup [], σ, K, rfl, ⟨rfl, (setBox_id hb).symm⟩, .tup [] #[] rfl (fun j h => by cases h), hr, Ctx.le.refl K⟩
theorem tfB : aelt Tryz.prog 54 = some (5, 1, 1) := tf54.2.2.2.2.2.2
theorem tfBE : el Tryz.prog 54 = some 5 := tf54.2.2.2.1
theorem bytesA_len (xs : List UInt8) : (bytesA xs).length = xs.length := by simp [bytesA]
theorem isv_byteA (c : UInt8) : isv (byteA c) = true := rfl
theorem flat_byteA (c : UInt8) : flat (byteA c) = [byteA c] := rfl
theorem buf_flat {σ0 σ : AS} {v : AV} {l : List AV} (h : WBuf 1 5 σ0 σ v l) : flat v = [v] := by cases h <;> rfl
theorem buf_isv {σ0 σ : AS} {v : AV} {l : List AV} (h : WBuf 1 5 σ0 σ v l) : isv v = true := by cases h <;> rfl
theorem writeByte_tri {σ0 σ : AS} {b : Nat} {xs : List UInt8} (h : Bl σ0 σ b xs) (hl : xs.length ≤ 1000000000) (c : UInt8) :
  Tri Tryz.prog G 122 [.ptr b 0, byteA c] σ fun r σ' => Bl σ0 σ' b (xs ++ [c]) := by
 obtain ⟨p, v, h1, h2, h3, h4, h5⟩ := h.box
 have hc := check_tri G (v := v) h1 h.ty h2
 have h3' := h3.setOther h.out h4 [.ptr b 0, v]
 have hB' : Bl σ0 (σ.setBox b [.ptr b 0, v]) b xs := ⟨h.le.setBox h.out _, h.out, h.ty, _, v, by simp [AS.setBox], .inr rfl, h3', h4, h5⟩
 have hbx : (σ.setBox b [.ptr b 0, v]).box b = some [.ptr b 0, v] := by simp [AS.setBox]
 generalize σ.setBox b [.ptr b 0, v] = σ1 at *
 refine Tri.of_awp mixed Tryz.func122 rfl (by kernel_rfl) (by kernel_rfl) (by simp [Tryz.ntmps122]) Tryz.results122 ?_
 repeat' (first | refine xs ?_ ?_ <;> intros | (refine wn ?_; intro bx hbx; try simp only [fb] at hbx) | ((refine Tri.mono hc ?_; rintro r s ⟨rfl, rfl⟩)) | ((refine app_wb (ys := bytesA [c]) h3' tfB (asrc_sl tfBE) (bytes_ok [c]) (by rw [bytesA_len, bytesA_len]; simp; omega) (fun v2 s2 ha => ?_); have k1 := (ha.keep b _ hbx h4).1; have k2 := buf_flat ha.buf; have k3 := buf_isv ha.buf)) | refine wj ?_ | simp -dsimp only [↓bp, bq, br, seval, tbBld, byteA, *] | refine wz ?_ | fail)
 exact finishW_some _ (AS.le.refl _) (hB'.push hbx h4 ha h5)
theorem asrc_bytes (s : List UInt8) : asrc Tryz.prog 9 (.str s) = some (bytesA s) := asrc_str tf9.2.1
theorem writeString_tri {σ0 σ : AS} {b : Nat} {xs : List UInt8} (h : Bl σ0 σ b xs) (ys : List UInt8) (hl : xs.length + ys.length ≤ 1000000000000) :
  Tri Tryz.prog G 121 [.ptr b 0, .str ys] σ fun r σ' => Bl σ0 σ' b (xs ++ ys) := by
 obtain ⟨p, v, h1, h2, h3, h4, h5⟩ := h.box
 have hc := check_tri G (v := v) h1 h.ty h2
 have h3' := h3.setOther h.out h4 [.ptr b 0, v]
 have hB' : Bl σ0 (σ.setBox b [.ptr b 0, v]) b xs := ⟨h.le.setBox h.out _, h.out, h.ty, _, v, by simp [AS.setBox], .inr rfl, h3', h4, h5⟩
 have hbx : (σ.setBox b [.ptr b 0, v]).box b = some [.ptr b 0, v] := by simp [AS.setBox]
 generalize σ.setBox b [.ptr b 0, v] = σ1 at *
 refine Tri.of_awp mixed Tryz.func121 rfl (by kernel_rfl) (by kernel_rfl) (by simp [Tryz.ntmps121]) Tryz.results121 ?_
 repeat' (first | refine xs ?_ ?_ <;> intros | (refine wn ?_; intro bx hbx; try simp only [fb] at hbx) | ((refine Tri.mono hc ?_; rintro r s ⟨rfl, rfl⟩)) | ((refine app_wb (ys := bytesA ys) h3' tfB (asrc_bytes ys) (bytes_ok ys) (by rw [bytesA_len, bytesA_len]; omega) (fun v2 s2 ha => ?_); have k1 := (ha.keep b _ hbx h4).1; have k2 := buf_flat ha.buf; have k3 := buf_isv ha.buf)) | refine wj ?_ | simp -dsimp only [↓bp, bq, br, seval, tbBld, *] | refine wz ?_ | fail)
 exact finishW_some _ (AS.le.refl _) (hB'.push hbx h4 ha h5)
theorem string_tri {σ0 σ : AS} {b : Nat} {xs : List UInt8} (h : Bl σ0 σ b xs) (hl : xs.length ≤ 1000000000000) :
  Tri Tryz.prog G 127 [.ptr b 0] σ fun r σ' => r = .str xs ∧ σ' = σ0 := by
 obtain ⟨p, v, h1, h2, h3, h4, h5⟩ := h.box
 revert h3
 generalize hbs : bytesA xs = bs
 intro h3
 cases h3 with
 | nil hle =>
  have hx : xs = [] := by cases xs with | nil => rfl | cons _ _ => cases hbs
  subst hx
  clear h5
  refine Tri.of_awp mixed Tryz.func127 rfl (by kernel_rfl) (by kernel_rfl) (by simp [Tryz.ntmps127]) Tryz.results127 ?_
  repeat' (first | refine xs ?_ ?_ <;> intros | (refine wn ?_; intro bx hbx; try simp only [fb] at hbx) | refine wj ?_ | simp -dsimp only [↓bp, bq, br, seval, tbBld, *] | refine wz ?_ | fail) | row r _ hle g0 g1 gb gx =>
  have hne : xs ≠ [] := h5 (by simp)
  have hlen : bs.length = xs.length := by rw [← hbs, bytesA_len]
  have hp : (0 : Int) < bs.length := by rw [hlen]; have := List.length_pos_iff.2 hne; omega
  have hp' : 0 < bs.length := by omega
  have gb' : σ.box r = some (xs.map fun c => .int .u8 c.toNat) := by rw [gb, ← hbs, flat_bytesA]; rfl
  clear h5 gx
  have hdel : σ0.le (σ.delBox r) := ⟨fun i cs hi => by
   have hne : i ≠ r := fun e => by subst e; rw [g0] at hi; cases hi
   show (if i = r then none else σ.box i) = some cs
   rw [if_neg hne]; exact h.le.box _ _ hi, fun i m hi => h.le.tip _ _ hi, h.le.ty⟩
  refine Tri.of_awp mixed Tryz.func127 rfl (by kernel_rfl) (by kernel_rfl) (by simp [Tryz.ntmps127]) Tryz.results127 ?_
  repeat' (first | refine xs ?_ ?_ <;> intros | (refine wn ?_; intro bx hbx; try simp only [fb] at hbx) | (refine ustrW_row (E := 5) (l := xs) tf243.2.1 (by kernel_rfl) gb' hne rfl ?_) | refine wj ?_ | simp -dsimp only [↓bp, bq, br, seval, tbBld, *] | refine wz ?_ | fail)
  all_goals skip
end
section
inductive Term where
 | mk (kind : UInt8) (neg : Bool) (limbs : List UInt32) (text : List UInt8) (num : Int) (items tail : List Term)
instance : Inhabited Term := ⟨.mk 0 false [] [] 0 [] []⟩
def Term.kind : Term → UInt8 | .mk k _ _ _ _ _ _ => k
def Term.neg : Term → Bool | .mk _ g _ _ _ _ _ => g
def Term.limbs : Term → List UInt32 | .mk _ _ l _ _ _ _ => l
def Term.text : Term → List UInt8 | .mk _ _ _ s _ _ _ => s
def Term.num : Term → Int | .mk _ _ _ _ n _ _ => n
def Term.items : Term → List Term | .mk _ _ _ _ _ ks _ => ks
def Term.tail : Term → List Term | .mk _ _ _ _ _ _ ts => ts
def Term.knd (t : Term) : Int := t.kind.toNat
theorem Term.knd_nn (t : Term) : 0 ≤ t.knd := Int.natCast_nonneg _
def limA (x : UInt32) : AV := .int .u32 x.toNat
def lims (l : List UInt32) : AV := .sl .none (l.map limA) []
instance {l : List UInt32} : NotBs (lims l) := ⟨fun _ _ _ _ h => by unfold lims at h; cases h⟩
def Term.enc : Term → AV
 | .mk k g l s n ks ts => .agg [.int .u8 k.toNat, .bool g, lims l, .str s, .int .i64 n, .sl .none (ks.map Term.enc) [], .sl .none (ts.map Term.enc) []]
def encs (l : List Term) : AV := .sl .none (l.map Term.enc) []
instance {l : List Term} : NotBs (encs l) := ⟨fun _ _ _ _ h => by unfold encs at h; cases h⟩
theorem Term.flat_enc (t : Term) : flat t.enc = [.int .u8 t.knd, .bool t.neg, lims t.limbs, .str t.text, .int .i64 t.num, encs t.items, encs t.tail] := by
 cases t; simp [Term.enc, flat, Term.knd, Term.kind, Term.neg, Term.limbs, Term.text, Term.num, Term.items, Term.tail, encs]
theorem Term.isv_enc (t : Term) : isv t.enc = true := by cases t; simp [Term.enc, isv]
theorem Term.fold_enc (t : Term) : AV.agg [.int .u8 t.knd, .bool t.neg, lims t.limbs, .str t.text, .int .i64 t.num, encs t.items, encs t.tail] = t.enc := by
 cases t; simp [Term.enc, Term.knd, Term.kind, Term.neg, Term.limbs, Term.text, Term.num, Term.items, Term.tail, encs]
theorem isv_encs (l : List Term) : isv (encs l) = true := rfl
theorem flat_encs (l : List Term) : flat (encs l) = [encs l] := rfl
theorem isv_lims (l : List UInt32) : isv (lims l) = true := rfl
theorem flat_lims (l : List UInt32) : flat (lims l) = [lims l] := rfl
theorem len_encs {P : Program} {t : TypeId} (l : List Term) : ablt P .len #[t] [encs l] = if (el P t).isSome then some (.int .i64 l.length) else none := by
 simp [encs, l_sl]
theorem len_lims {P : Program} {t : TypeId} (l : List UInt32) : ablt P .len #[t] [lims l] = if (el P t).isSome then some (.int .i64 l.length) else none := by
 simp [lims, l_sl]
theorem ix_encs {P : Program} {t : TypeId} {k : IntKind} (l : List Term) (i : Nat) : aindexA P t (encs l) (.int k (i : Int)) = ixk ((el P t).bind (tk P)) ((l[i]?).map Term.enc) := by
 simp [encs, aindexA_sl]
theorem ix_encs' {P : Program} {t : TypeId} {k : IntKind} (l : List Term) (i : Int) (h : 0 ≤ i) : aindexA P t (encs l) (.int k i) = ixk ((el P t).bind (tk P)) ((l[i.toNat]?).map Term.enc) := by
 simp [encs, aindexA_sl, h]
theorem ix_lims {P : Program} {t : TypeId} {k : IntKind} (l : List UInt32) (i : Nat) : aindexA P t (lims l) (.int k (i : Int)) = ixk ((el P t).bind (tk P)) ((l[i]?).map limA) := by
 simp [lims, aindexA_sl]
theorem ix_lims' {P : Program} {t : TypeId} {k : IntKind} (l : List UInt32) (i : Int) (h : 0 ≤ i) : aindexA P t (lims l) (.int k i) = ixk ((el P t).bind (tk P)) ((l[i.toNat]?).map limA) := by
 simp [lims, aindexA_sl, h]
theorem flat_limA (x : UInt32) : flat (limA x) = [limA x] := rfl
theorem Term.ind {P : Term → Prop} (h : ∀ t, (∀ k, k ∈ t.items → P k) → (∀ k, k ∈ t.tail → P k) → P t) : ∀ t, P t := by
 have key : ∀ n, ∀ t : Term, SizeOf.sizeOf t ≤ n → P t := by
  intro n
  induction n with
  | zero => intro t ht; cases t; simp at ht
  | succ n ih =>
   intro t ht
   cases t with
   | mk a b c d e ks ts =>
    refine h _ (fun k hk => ih k ?_) (fun k hk => ih k ?_)
    ·have := List.sizeOf_lt_of_mem (show k ∈ ks from hk)
     simp at ht
     omega
    ·have := List.sizeOf_lt_of_mem (show k ∈ ts from hk)
     simp at ht
     omega
 exact fun t => key _ t (Nat.le_refl _)
mutual
def Term.bulk : Term → Nat
 | .mk _ _ l s _ ks ts => l.length + s.length + bulks ks + bulks ts + 1
def bulks : List Term → Nat
 | [] => 0
 | k :: ks => k.bulk + bulks ks
end
theorem Term.bulk_eq (t : Term) : t.bulk = t.limbs.length + t.text.length + bulks t.items + bulks t.tail + 1 := by cases t; simp [Term.bulk, Term.limbs, Term.text, Term.items, Term.tail]
theorem bulk_mem {l : List Term} {k : Term} (h : k ∈ l) : k.bulk ≤ bulks l := by
 induction l with
 | nil => cases h
 | cons x l ih =>
  simp only [bulks]
  rcases List.mem_cons.1 h with rfl | h
  ·omega
  ·have := ih h; omega
theorem bulks_append (l r : List Term) : bulks (l ++ r) = bulks l + bulks r := by
 induction l with
 | nil => simp [bulks]
 | cons x l ih => simp only [List.cons_append, bulks, ih]; omega
theorem len_le_bulks (l : List Term) : l.length ≤ bulks l := by
 induction l with
 | nil => simp [bulks]
 | cons x l ih => have := x.bulk_eq; simp only [List.length_cons, bulks]; omega
theorem bulk_item {k t : Term} (h : k ∈ t.items) : k.bulk < t.bulk := by
 have := bulk_mem h; have := t.bulk_eq; omega
theorem bulk_tail {k t : Term} (h : k ∈ t.tail) : k.bulk < t.bulk := by
 have := bulk_mem h; have := t.bulk_eq; omega
theorem len_items (t : Term) : t.items.length < t.bulk := by
 have := len_le_bulks t.items; have := t.bulk_eq; omega
theorem len_tail (t : Term) : t.tail.length < t.bulk := by
 have := len_le_bulks t.tail; have := t.bulk_eq; omega
theorem len_limbs (t : Term) : t.limbs.length < t.bulk := by
 have := t.bulk_eq; omega
theorem len_text (t : Term) : t.text.length < t.bulk := by
 have := t.bulk_eq; omega
theorem wrap_nat {x : Int} (h0 : -9223372036854775808 ≤ x) (h1 : x ≤ 9223372036854775807) : IntKind.i64.wrap x = x := by
 rw [IntKind.wrap_i64]; omega
theorem take_succ_get {α : Type} (l : List α) (i : Nat) (x : α) (h : l[i]? = some x) : l.take (i + 1) = l.take i ++ [x] := by
 rw [List.take_add_one, h]; rfl
theorem drop_get {α : Type} (l : List α) (i : Nat) (x : α) (h : l[i]? = some x) : l.drop i = x :: l.drop (i + 1) := by
 obtain ⟨hi, rfl⟩ := List.getElem?_eq_some_iff.1 h
 exact List.drop_eq_getElem_cons hi
theorem flat1 {l : List UInt32} : ∀ a, a ∈ l.map limA → (flat a).length = 1 := fun a ha => by
 obtain ⟨x, _, rfl⟩ := List.mem_map.1 ha
 rfl
theorem ones (t : Term) : ∀ d, d ∈ flat t.enc → Av.one d = true := fun d hd => by rw [t.flat_enc] at hd; simp at hd; rcases hd with rfl | rfl | rfl | rfl | rfl | rfl | rfl <;> rfl
theorem sl_lims {P : Program} {t : TypeId} (l : List UInt32) (lo hi : Option AV) (ht : ((el P t).bind (tk P)) = some (false, 1)) : aslice P t (lims l) lo hi = match abnd lo 0, abnd hi l.length with
  | some a, some b => if a ≤ b ∧ b ≤ l.length then some (lims ((l.take b).drop a)) else none
  | _, _ => none := by
 unfold lims
 rw [aslice_sl, ht, List.length_map]
 cases abnd lo 0 with
 | none => cases abnd hi l.length <;> rfl
 | some a =>
  cases abnd hi l.length with
  | none => rfl
  | some b =>
   rw [slk_plain flat1]
   simp only [List.length_map, List.map_drop, List.map_take]
end
section
def tbLims := And.intro (And.intro (And.intro @tf3 (And.intro @tf4 @tf5)) (And.intro @tf169 (And.intro @tf9 @tf56))) (And.intro (And.intro @isv_lims (And.intro @flat_lims @len_lims)) (And.intro @ix_lims (And.intro @ix_lims' @flat_limA)))
variable (G : Nat → AV)
def markI (k i : Int) : Int := IntKind.i64.wrap (IntKind.i64.wrap (1000003 * IntKind.i64.wrap (k + 7)) + i)
theorem mark_pure (k i : Int) : Pure Tryz.prog G 117 [.int .i64 k, .int .i64 i] (.int .i64 (markI k i)) := by
 intro σ
 refine Tri.of_awp mixed Tryz.func117 rfl (by kernel_rfl) (by kernel_rfl) (by simp [Tryz.ntmps117]) Tryz.results117 ?_
 repeat' (first | refine xs ?_ ?_ <;> intros | (refine wn ?_; intro bx hbx; try simp only [fb] at hbx) | refine wj ?_ | simp -dsimp only [↓bp, bq, br, seval, tbLims, *] | refine wz ?_ | fail)
 all_goals rfl
theorem take_next {α : Type} {l r : List α} {i : Nat} {x : α} (h : l.take i = r.take i) (hl : l[i]? = some x) (hr : r[i]? = some x) : l.take (i + 1) = r.take (i + 1) := by
 rw [take_succ_get _ _ _ hl, take_succ_get _ _ _ hr, h]
theorem take_all {α : Type} {l r : List α} (hl : l.length = r.length) (h : l.take l.length = r.take l.length) : l = r := by
 rw [List.take_length] at h
 rw [h, hl, List.take_length]
def lmk (i : Int) : AV := .int .u32 (IntKind.u32.wrap (markI 1 i))
def lmarksTo (i : Nat) : List AV := (List.range i).map fun (i : Nat) => lmk (i : Int)
def lmarks : List AV := lmarksTo 12
def lentLims (l : List UInt32) : AV := .sl .none (l.map limA) lmarks
theorem tfL : aelt Tryz.prog 56 = some (169, 1, 4) := tf56.2.2.2.2.2.2
theorem tfLE : el Tryz.prog 56 = some 169 := tf56.2.2.2.1
theorem clone_tri (l : List UInt32) (hl : l.length ≤ 1000000000) (σ : AS) : Tri Tryz.prog G 209 [lims l] σ fun r σ' => Le r (lims l) ∧ σ' = σ := by
 have key : ∀ x, (∀ op t, (el Tryz.prog t).isSome = true → abin Tryz.prog op t x .nil = aeq op false) → asrc Tryz.prog 56 x = some (l.map limA) → Tri Tryz.prog G 209 [x] σ fun r σ' => Le r (lims l) ∧ σ' = σ := by
  intro x h1 h2
  have h3 := h1 .eql 56 (by rw [tfLE]; rfl)
  refine Tri.of_awp mixed Tryz.func209 rfl (by kernel_rfl) (by kernel_rfl) (by simp [Tryz.ntmps209]) Tryz.results209 ?_
  simp -dsimp only [↓bp, bq, br, seval, tbLims, h3]
  refine build_none tfL ?_
  simp -dsimp only [↓bp, bq, br, seval, tbLims]
  refine app_full (σ0 := σ) (AS.le.refl σ) (fun a ha => by cases ha) tfL h2 flat1 (by simp; omega) (fun he => ?_) (fun v σ1 hB hx => ?_)
  ·simp -dsimp only [↓bp, bq, br, seval, tbLims]
   have e : lims l = .sl .none [] [] := by unfold lims; rw [he]
   rw [e]
   exact finish_le Le.gh (AS.le.refl σ)
  ·simp -dsimp only [↓bp, bq, br, seval, tbLims]
   exact finish_le hB.told hB.le
 cases l with
 | nil =>
  refine Tri.nil_or ?_ fun a c => ?_
  ·refine Tri.of_awp mixed Tryz.func209 rfl (by kernel_rfl) (by kernel_rfl) (by simp [Tryz.ntmps209]) Tryz.results209 ?_
   simp -dsimp only [↓bp, bq, br, seval, tbLims]
   exact finish_le Le.nil (AS.le.refl σ)
  ·exact key _ (fun op t h => by rw [abin_raw_nil, if_pos h]) (by simp [asrc, tfLE])
 | cons x l => exact key _ (fun op t h => by simp [lims, abin, isNil, h]) (asrc_sl tfLE)
end
set_option maxRecDepth 20000
section
variable (G : Nat → AV)
mutual
def same : Term → Term → Bool
 | .mk k g l s n ks ts, u => decide ((k.toNat : Int) = u.knd) && (g == u.neg) && decide (l = u.limbs) && decide (s = u.text) && decide (n = u.num) && sames ks u.items && sames ts u.tail
def sames : List Term → List Term → Bool
 | [], [] => true
 | a :: l, b :: r => same a b && sames l r
 | _, _ => false
end
theorem same_eq (t u : Term) : same t u = (decide (t.knd = u.knd) && (t.neg == u.neg) && decide (t.limbs = u.limbs) && decide (t.text = u.text) && decide (t.num = u.num) && sames t.items u.items && sames t.tail u.tail) := by
 cases t; rw [same]; rfl
theorem sames_iff_of {l : List Term} (h : ∀ t, t ∈ l → ∀ u, same t u = true ↔ t = u) : ∀ r, sames l r = true ↔ l = r := by
 induction l with
 | nil => intro r; cases r <;> simp [sames]
 | cons a l ih =>
  intro r
  cases r with
  | nil => simp [sames]
  | cons b r => simp only [sames, Bool.and_eq_true, h a (by simp) b, ih (fun t ht => h t (by simp [ht])) r, List.cons.injEq]
theorem same_iff (t : Term) : ∀ u, same t u = true ↔ t = u := by
 refine Term.ind (P := fun t => ∀ u, same t u = true ↔ t = u) (fun t h1 h2 u => ?_) t
 rw [same_eq]
 simp only [Bool.and_eq_true, decide_eq_true_eq, beq_iff_eq, sames_iff_of h1, sames_iff_of h2]
 constructor
 ·rintro ⟨⟨⟨⟨⟨⟨h, rfl2⟩, h3⟩, h4⟩, h5⟩, h6⟩, h7⟩
  cases t; cases u
  simp only [Term.knd, Term.kind, Term.neg, Term.limbs, Term.text, Term.num, Term.items, Term.tail] at *
  simp only [Term.mk.injEq]
  exact ⟨UInt8.toNat_inj.1 (by omega), rfl2, h3, h4, h5, h6, h7⟩
 ·rintro rfl; simp
end
end Go.Proofs.YtjmdaeabllkgnaaGreatDoor
