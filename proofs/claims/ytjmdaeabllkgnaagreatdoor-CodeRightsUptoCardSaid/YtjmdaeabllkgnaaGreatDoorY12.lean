/- strings.Builder: bytes and texts put behind what it holds; what it holds. -/
import Derived.Test.YtjmdaeabllkgnaaGreatDoorY11
import Derived.Laws.Tables
set_option linter.unusedVariables false
set_option linter.unusedSimpArgs false
set_option maxRecDepth 20000
set_option linter.defProp false
namespace Go.Proofs.YtjmdaeabllkgnaaGreatDoor
open Go Go.Av
section
def tbBld := And.intro (And.intro (And.intro @tf3 @tf4) (And.intro @tf5 @tf9)) (And.intro (And.intro @tf54 @tf145) (And.intro @tf147 (And.intro @tf150 @tf243)))
variable (G : Nat -> AV)
abbrev Bl (σ0 σ : AS) (b : Nat) (xs : List UInt8) : Prop := Bld 147 5 σ0 σ b xs
theorem check_tri {σ : AS} {b : Nat} {p v : AV} (hb : σ.box b = some [p, v]) (ht : σ.ty b = some (.t 147, 2)) (hp : p = .nilptr \/ p = .ptr b 0) :
  Tri Tryz.prog G 175 [.ptr b 0] σ fun r σ' => r = .tup [] /\ σ' = σ.setBox b [.ptr b 0, v] := by
 refine ⟨by kernel_rfl, fun K w vals hr hv => ?_⟩
 match vals, hv with
 | [x], ⟨hx, _⟩ =>
  rw [VR.ptr_iff] at hx
  subst hx
  obtain ⟨k1, k2, k3, k4, k5, c, E, hc, hl, hcv⟩ := hr.box b _ hb
  obtain ⟨c2, fz, hc2, hn2⟩ := hr.ty b _ _ ht
  rw [hc] at hc2
  simp only [Option.some.injEq, Obj.cells.injEq] at hc2
  obtain ⟨rfl, rfl, rfl⟩ := hc2
  have h0 := hcv 0 (by simp)
  have h1 := hcv 1 (by simp)
  simp only [List.getElem_cons_zero, List.getElem_cons_succ] at h0 h1
  have hsz : c.size = 2 := hn2
  have hcell : w.cell? ⟨b, 0, none⟩ = some (c.getD 0 Go.undef) := by
   rw [Lib.cell_of_heap hc]
   simp [hsz]
  rcases hp with rfl | rfl
  ·rw [VR.nilptr_iff] at h0
   rw [h0] at hcell
   refine (copyCheck_fresh b w hcell (by simp [World.shape?, hc, hsz]) (by simp [World.frozen?, hc])).mono ?_
   rintro e w' ⟨rfl, rfl⟩
   refine ⟨_, .tup [], _, K, rfl, ⟨rfl, rfl⟩, .tup [] #[] rfl (fun j h => by cases h), ?_, Ctx.le.refl K⟩
   have e1 : w.setCell ⟨b, 0, none⟩ (.pointer (some ⟨b, 0, none⟩)) = w.setRow b (c.setIfInBounds 0 (.pointer (some ⟨b, 0, none⟩))) := by
    exact setCell_eq_setRow w b 0 c _ _ _ hc
   rw [e1]
   refine hr.setBox hb hc _ (by simp) (by simp [hsz]) (fun a ha => ?_) (fun j hj => ?_)
   ·simp at ha
    rcases ha with rfl | rfl
    ·rfl
    ·exact k5 _ (by simp)
   ·match j, hj with
    | 0, _ => simp [hsz]; exact .ptr b 0
    | 1, _ => simp only [List.getElem_cons_succ, List.getElem_cons_zero]; rw [show (c.setIfInBounds 0 (Value.pointer (some ⟨b, 0, none⟩))).getD 1 Go.undef = c.getD 1 Go.undef by simp [Array.getD_eq_getD_getElem?]]; exact h1
  ·rw [VR.ptr_iff] at h0
   rw [h0] at hcell
   refine (copyCheck_used b w hcell).mono ?_
   rintro e w' ⟨rfl, rfl⟩
   exact ⟨_, .tup [], σ, K, rfl, ⟨rfl, (setBox_id hb).symm⟩, .tup [] #[] rfl (fun j h => by cases h), hr, Ctx.le.refl K⟩
theorem tfB : aelt Tryz.prog 54 = some (5, 1, 1) := tf54.2.2.2.2.2.2
theorem tfBE : el Tryz.prog 54 = some 5 := tf54.2.2.2.1
theorem bytesA_len (xs : List UInt8) : (bytesA xs).length = xs.length := by simp [bytesA]
theorem buf_flat {σ0 σ : AS} {v : AV} {l : List AV} (h : WBuf 1 5 σ0 σ v l) : flat v = [v] := by cases h <;> rfl
theorem buf_isv {σ0 σ : AS} {v : AV} {l : List AV} (h : WBuf 1 5 σ0 σ v l) : isv v = true := by cases h <;> rfl
theorem writeByte_tri {σ0 σ : AS} {b : Nat} {xs : List UInt8} (h : Bl σ0 σ b xs) (hl : xs.length <= 1000000000) (c : UInt8) :
  Tri Tryz.prog G 122 [.ptr b 0, byteA c] σ fun r σ' => Bl σ0 σ' b (xs ++ [c]) := by
 obtain ⟨p, v, h1, h2, h3, h4, h5⟩ := h.box
 have hc := check_tri G (v := v) h1 h.ty h2
 have h3' := h3.setOther h.out h4 [.ptr b 0, v]
 have hB' : Bl σ0 (σ.setBox b [.ptr b 0, v]) b xs := ⟨h.le.setBox h.out _, h.out, h.ty, _, v, by simp [AS.setBox], .inr rfl, h3', h4, h5⟩
 have hbx : (σ.setBox b [.ptr b 0, v]).box b = some [.ptr b 0, v] := by simp [AS.setBox]
 generalize σ.setBox b [.ptr b 0, v] = σ1 at *
 refine Tri.of_awp mixed Tryz.func122 rfl (by kernel_rfl) (by kernel_rfl) (by simp [Tryz.ntmps122]) Tryz.results122 ?_
 repeat' (first | refine xs ?_ ?_ <;> intros | (refine wn ?_; intro bx hbx; try simp only [fb] at hbx) | ((refine Tri.mono hc ?_; rintro r s ⟨rfl, rfl⟩)) | ((refine app_wb (ys := bytesA [c]) h3' tfB (asrc_sl tfBE) (bytes_ok [c]) (by rw [bytesA_len, bytesA_len]; simp; omega) (fun v2 s2 ha => ?_); have k1 := (ha.keep b _ hbx h4).1; have k2 := buf_flat ha.buf; have k3 := buf_isv ha.buf)) | refine wj ?_ | simp -dsimp only [↓bp, bq, br, seval, tbBld, byteA, *] | refine wz ?_ | fail)
 exact finishW_some _ (AS.le.refl _) (hB'.push hbx h4 ha h5)
theorem asrc_bytes (s : List UInt8) : asrc Tryz.prog 9 (.str s) = some (bytesA s) := asrc_str tf9.2.1
theorem writeString_tri {σ0 σ : AS} {b : Nat} {xs : List UInt8} (h : Bl σ0 σ b xs) (ys : List UInt8) (hl : xs.length + ys.length <= 1000000000000) :
  Tri Tryz.prog G 121 [.ptr b 0, .str ys] σ fun r σ' => Bl σ0 σ' b (xs ++ ys) := by
 obtain ⟨p, v, h1, h2, h3, h4, h5⟩ := h.box
 have hc := check_tri G (v := v) h1 h.ty h2
 have h3' := h3.setOther h.out h4 [.ptr b 0, v]
 have hB' : Bl σ0 (σ.setBox b [.ptr b 0, v]) b xs := ⟨h.le.setBox h.out _, h.out, h.ty, _, v, by simp [AS.setBox], .inr rfl, h3', h4, h5⟩
 have hbx : (σ.setBox b [.ptr b 0, v]).box b = some [.ptr b 0, v] := by simp [AS.setBox]
 generalize σ.setBox b [.ptr b 0, v] = σ1 at *
 refine Tri.of_awp mixed Tryz.func121 rfl (by kernel_rfl) (by kernel_rfl) (by simp [Tryz.ntmps121]) Tryz.results121 ?_
 repeat' (first | refine xs ?_ ?_ <;> intros | (refine wn ?_; intro bx hbx; try simp only [fb] at hbx) | ((refine Tri.mono hc ?_; rintro r s ⟨rfl, rfl⟩)) | ((refine app_wb (ys := bytesA ys) h3' tfB (asrc_bytes ys) (bytes_ok ys) (by rw [bytesA_len, bytesA_len]; omega) (fun v2 s2 ha => ?_); have k1 := (ha.keep b _ hbx h4).1; have k2 := buf_flat ha.buf; have k3 := buf_isv ha.buf)) | refine wj ?_ | simp -dsimp only [↓bp, bq, br, seval, tbBld, *] | refine wz ?_ | fail)
 exact finishW_some _ (AS.le.refl _) (hB'.push hbx h4 ha h5)
end
section
inductive Term where
 | mk (kind : UInt8) (neg : Bool) (limbs : List UInt32) (text : List UInt8) (num : Int) (items tail : List Term)
instance : Inhabited Term := ⟨.mk 0 false [] [] 0 [] []⟩
def Term.kind : Term -> UInt8 | .mk k _ _ _ _ _ _ => k
def Term.neg : Term -> Bool | .mk _ g _ _ _ _ _ => g
def Term.limbs : Term -> List UInt32 | .mk _ _ l _ _ _ _ => l
def Term.text : Term -> List UInt8 | .mk _ _ _ s _ _ _ => s
def Term.num : Term -> Int | .mk _ _ _ _ n _ _ => n
def Term.items : Term -> List Term | .mk _ _ _ _ _ ks _ => ks
def Term.tail : Term -> List Term | .mk _ _ _ _ _ _ ts => ts
def Term.knd (t : Term) : Int := t.kind.toNat
theorem Term.knd_nn (t : Term) : 0 <= t.knd := Int.natCast_nonneg _
def limA (x : UInt32) : AV := .int .u32 x.toNat
def lims (l : List UInt32) : AV := .sl .none (l.map limA) []
instance {l : List UInt32} : NotBs (lims l) := ⟨fun _ _ _ _ h => by unfold lims at h; cases h⟩
def Term.enc : Term -> AV
 | .mk k g l s n ks ts => .agg [.int .u8 k.toNat, .bool g, lims l, .str s, .int .i64 n, .sl .none (ks.map Term.enc) [], .sl .none (ts.map Term.enc) []]
def encs (l : List Term) : AV := .sl .none (l.map Term.enc) []
instance {l : List Term} : NotBs (encs l) := ⟨fun _ _ _ _ h => by unfold encs at h; cases h⟩
theorem Term.flat_enc (t : Term) : flat t.enc = [.int .u8 t.knd, .bool t.neg, lims t.limbs, .str t.text, .int .i64 t.num, encs t.items, encs t.tail] := by
 cases t; simp [Term.enc, flat, Term.knd, Term.kind, Term.neg, Term.limbs, Term.text, Term.num, Term.items, Term.tail, encs]
theorem Term.isv_enc (t : Term) : isv t.enc = true := by cases t; simp [Term.enc, isv]
theorem Term.fold_enc (t : Term) : AV.agg [.int .u8 t.knd, .bool t.neg, lims t.limbs, .str t.text, .int .i64 t.num, encs t.items, encs t.tail] = t.enc := by
 cases t; simp [Term.enc, Term.knd, Term.kind, Term.neg, Term.limbs, Term.text, Term.num, Term.items, Term.tail, encs]
theorem isv_encs (l : List Term) : isv (encs l) = true := rfl
theorem flat_encs (l : List Term) : flat (encs l) = [encs l] := rfl
theorem isv_lims (l : List UInt32) : isv (lims l) = true := rfl
theorem flat_lims (l : List UInt32) : flat (lims l) = [lims l] := rfl
theorem len_encs {P : Program} {t : TypeId} (l : List Term) : ablt P .len #[t] [encs l] = if (el P t).isSome then some (.int .i64 l.length) else none := by
 simp [encs, l_sl]
theorem len_lims {P : Program} {t : TypeId} (l : List UInt32) : ablt P .len #[t] [lims l] = if (el P t).isSome then some (.int .i64 l.length) else none := by
 simp [lims, l_sl]
theorem ix_encs {P : Program} {t : TypeId} {k : IntKind} (l : List Term) (i : Nat) : aindexA P t (encs l) (.int k (i : Int)) = ixk ((el P t).bind (tk P)) ((l[i]?).map Term.enc) := by
 simp [encs, aindexA_sl]
theorem ix_encs' {P : Program} {t : TypeId} {k : IntKind} (l : List Term) (i : Int) (h : 0 <= i) : aindexA P t (encs l) (.int k i) = ixk ((el P t).bind (tk P)) ((l[i.toNat]?).map Term.enc) := by
 simp [encs, aindexA_sl, h]
theorem ix_lims {P : Program} {t : TypeId} {k : IntKind} (l : List UInt32) (i : Nat) : aindexA P t (lims l) (.int k (i : Int)) = ixk ((el P t).bind (tk P)) ((l[i]?).map limA) := by
 simp [lims, aindexA_sl]
theorem ix_lims' {P : Program} {t : TypeId} {k : IntKind} (l : List UInt32) (i : Int) (h : 0 <= i) : aindexA P t (lims l) (.int k i) = ixk ((el P t).bind (tk P)) ((l[i.toNat]?).map limA) := by
 simp [lims, aindexA_sl, h]
theorem flat_limA (x : UInt32) : flat (limA x) = [limA x] := rfl
theorem Term.ind {P : Term -> Prop} (h : ∀ t, (∀ k, k ∈ t.items -> P k) -> (∀ k, k ∈ t.tail -> P k) -> P t) : ∀ t, P t := by
 have key : ∀ n, ∀ t : Term, SizeOf.sizeOf t <= n -> P t := by
  intro n
  induction n with
  | zero => intro t ht; cases t; simp at ht
  | succ n ih =>
   intro t ht
   cases t with
   | mk a b c d e ks ts =>
    refine h _ (fun k hk => ih k ?_) (fun k hk => ih k ?_)
    ·have := List.sizeOf_lt_of_mem (show k ∈ ks from hk)
     simp at ht
     omega
    ·have := List.sizeOf_lt_of_mem (show k ∈ ts from hk)
     simp at ht
     omega
 exact fun t => key _ t (Nat.le_refl _)
mutual
def Term.bulk : Term -> Nat
 | .mk _ _ l s _ ks ts => l.length + s.length + bulks ks + bulks ts + 1
def bulks : List Term -> Nat
 | [] => 0
 | k :: ks => k.bulk + bulks ks
end
theorem Term.bulk_eq (t : Term) : t.bulk = t.limbs.length + t.text.length + bulks t.items + bulks t.tail + 1 := by cases t; simp [Term.bulk, Term.limbs, Term.text, Term.items, Term.tail]
theorem bulk_mem {l : List Term} {k : Term} (h : k ∈ l) : k.bulk <= bulks l := by
 induction l with
 | nil => cases h
 | cons x l ih =>
  simp only [bulks]
  rcases List.mem_cons.1 h with rfl | h
  ·omega
  ·have := ih h; omega
theorem bulks_append (l r : List Term) : bulks (l ++ r) = bulks l + bulks r := by
 induction l with
 | nil => simp [bulks]
 | cons x l ih => simp only [List.cons_append, bulks, ih]; omega
theorem len_le_bulks (l : List Term) : l.length <= bulks l := by
 induction l with
 | nil => simp [bulks]
 | cons x l ih => have := x.bulk_eq; simp only [List.length_cons, bulks]; omega
theorem bulk_item {k t : Term} (h : k ∈ t.items) : k.bulk < t.bulk := by
 have := bulk_mem h; have := t.bulk_eq; omega
theorem bulk_tail {k t : Term} (h : k ∈ t.tail) : k.bulk < t.bulk := by
 have := bulk_mem h; have := t.bulk_eq; omega
theorem len_items (t : Term) : t.items.length < t.bulk := by
 have := len_le_bulks t.items; have := t.bulk_eq; omega
theorem len_tail (t : Term) : t.tail.length < t.bulk := by
 have := len_le_bulks t.tail; have := t.bulk_eq; omega
theorem len_limbs (t : Term) : t.limbs.length < t.bulk := by
 have := t.bulk_eq; omega
theorem wrap_nat {x : Int} (h0 : -9223372036854775808 <= x) (h1 : x <= 9223372036854775807) : IntKind.i64.wrap x = x := by
 rw [IntKind.wrap_i64]; omega
theorem take_succ_get {α : Type} (l : List α) (i : Nat) (x : α) (h : l[i]? = some x) : l.take (i + 1) = l.take i ++ [x] := by
 rw [List.take_add_one, h]; rfl
theorem drop_get {α : Type} (l : List α) (i : Nat) (x : α) (h : l[i]? = some x) : l.drop i = x :: l.drop (i + 1) := by
 obtain ⟨hi, rfl⟩ := List.getElem?_eq_some_iff.1 h
 exact List.drop_eq_getElem_cons hi
theorem flat1 {l : List UInt32} : ∀ a, a ∈ l.map limA -> (flat a).length = 1 := fun a ha => by
 obtain ⟨x, _, rfl⟩ := List.mem_map.1 ha
 rfl
theorem ones (t : Term) : ∀ d, d ∈ flat t.enc -> Av.one d = true := fun d hd => by rw [t.flat_enc] at hd; simp at hd; rcases hd with rfl | rfl | rfl | rfl | rfl | rfl | rfl <;> rfl
end
section
def tbLims := And.intro (And.intro (And.intro @tf3 (And.intro @tf4 @tf5)) (And.intro @tf169 (And.intro @tf9 @tf56))) (And.intro (And.intro @isv_lims (And.intro @flat_lims @len_lims)) (And.intro @ix_lims (And.intro @ix_lims' @flat_limA)))
variable (G : Nat -> AV)
def markI (k i : Int) : Int := IntKind.i64.wrap (IntKind.i64.wrap (1000003 * IntKind.i64.wrap (k + 7)) + i)
theorem mark_pure (k i : Int) : Pure Tryz.prog G 117 [.int .i64 k, .int .i64 i] (.int .i64 (markI k i)) := by
 intro σ
 refine Tri.of_awp mixed Tryz.func117 rfl (by kernel_rfl) (by kernel_rfl) (by simp [Tryz.ntmps117]) Tryz.results117 ?_
 repeat' (first | refine xs ?_ ?_ <;> intros | (refine wn ?_; intro bx hbx; try simp only [fb] at hbx) | refine wj ?_ | simp -dsimp only [↓bp, bq, br, seval, tbLims, *] | refine wz ?_ | fail)
 all_goals rfl
theorem limA_ne {x y : UInt32} : ((x.toNat : Int) = (y.toNat : Int)) ↔ x = y := by
 constructor
 ·intro h; exact UInt32.toNat_inj.1 (by omega)
 ·rintro rfl; rfl
theorem take_next {α : Type} {l r : List α} {i : Nat} {x : α} (h : l.take i = r.take i) (hl : l[i]? = some x) (hr : r[i]? = some x) : l.take (i + 1) = r.take (i + 1) := by
 rw [take_succ_get _ _ _ hl, take_succ_get _ _ _ hr, h]
theorem take_all {α : Type} {l r : List α} (hl : l.length = r.length) (h : l.take l.length = r.take l.length) : l = r := by
 rw [List.take_length] at h
 rw [h, hl, List.take_length]
theorem samelims_pure (l r : List UInt32) (hl : l.length <= 1000000000) (hr : r.length <= 1000000000) : Pure Tryz.prog G 154 [lims l, lims r] (.bool (decide (l = r))) := by
 intro σ
 refine Tri.of_awp mixed Tryz.func154 rfl (by kernel_rfl) (by kernel_rfl) (by simp [Tryz.ntmps154]) Tryz.results154 ?_
 repeat' (first | refine xs ?_ ?_ <;> intros | (refine wn ?_; intro bx hbx; try simp only [fb] at hbx) | refine wj ?_ | simp -dsimp only [↓bp, bq, br, seval, tbLims, *] | refine wz ?_ | fail)
 rotate_right
 ·skip
  refine loop_keep mixed (fun n e => ∃ i : Nat, i <= (l).length /\ n = (l).length - i /\ e 5 = .int .i64 i /\ l.take i = r.take i) (l).length
    ⟨0, by omega, by omega, by simp -dsimp only [↓bp, bq, br, seval, tbLims]; first | done | rfl, rfl⟩ ?_
  rintro n v ⟨i, hi, rfl, h5, htk⟩
  simp -dsimp only [↓bp, bq, br, seval, tbLims] at h5
  simp -dsimp only [↓bp, bq, br, seval, tbLims, h5]
  refine condW_dec (fun hlt => ?_) (fun hge => ?_)
  ·obtain ⟨x, hx⟩ : ∃ x, l[i]? = some x := ⟨_, List.getElem?_eq_getElem (by omega)⟩
   obtain ⟨y, hy⟩ : ∃ y, r[i]? = some y := ⟨_, List.getElem?_eq_getElem (by omega)⟩
   clear hi hlt
   repeat' (first | refine xs ?_ ?_ <;> intros | (refine wn ?_; intro bx hbx; try simp only [fb] at hbx) | refine wj ?_ | simp -dsimp only [↓bp, bq, br, seval, tbLims, limA, *] | refine wz ?_ | fail)
   ·have hxy : l ≠ r := fun e => by subst e; rw [hx] at hy; simp only [Option.some.injEq] at hy; subst hy; simp_all
    simp [hxy]
   ·have hxy : x = y := limA_ne.1 (by simp_all)
    subst hxy
    have hlt := (List.getElem?_eq_some_iff.1 hx).1
    exact ⟨l.length - (i + 1), by omega, i + 1, by omega, rfl, by rw [wrap_nat (by omega) (by omega)]; rfl, take_next htk hx hy⟩
  ·have : i = l.length := by omega
   subst this
   have hlr : l = r := take_all (by omega) htk
   clear hi hge
   repeat' (first | refine xs ?_ ?_ <;> intros | (refine wn ?_; intro bx hbx; try simp only [fb] at hbx) | refine wj ?_ | simp -dsimp only [↓bp, bq, br, seval, tbLims, *] | refine wz ?_ | fail)
   all_goals simp [hlr]
 ·have : l ≠ r := fun e => by subst e; simp_all
  simp [this]
def lmk (i : Int) : AV := .int .u32 (IntKind.u32.wrap (markI 1 i))
def lmarksTo (i : Nat) : List AV := (List.range i).map fun (i : Nat) => lmk (i : Int)
theorem lmarksTo_succ (i : Nat) : lmarksTo (i + 1) = lmarksTo i ++ [lmk (i : Int)] := by simp [lmarksTo, List.range_succ]
theorem lmarksTo_len (i : Nat) : (lmarksTo i).length = i := by simp [lmarksTo]
def lmarks : List AV := lmarksTo 12
def lentLims (l : List UInt32) : AV := .sl .none (l.map limA) lmarks
theorem isv_lentLims (l : List UInt32) : isv (lentLims l) = true := rfl
theorem flat_lentLims (l : List UInt32) : flat (lentLims l) = [lentLims l] := rfl
theorem lentLims_le (l : List UInt32) : Le (lentLims l) (lims l) := Le.spare
theorem tfL : aelt Tryz.prog 56 = some (169, 1, 4) := tf56.2.2.2.2.2.2
theorem tfLE : el Tryz.prog 56 = some 169 := tf56.2.2.2.1
theorem lentlims_pure (l : List UInt32) (hl : l.length <= 1000000000) : Pure Tryz.prog G 132 [lims l] (lentLims l) := by
 refine Pure.of_le fun σ => ?_
 have hw0 : IntKind.i64.wrap ((l.length : Int) + 12) = l.length + 12 := wrap_nat (by omega) (by omega)
 refine Tri.of_awp mixed Tryz.func132 rfl (by kernel_rfl) (by kernel_rfl) (by simp [Tryz.ntmps132]) Tryz.results132 ?_
 simp -dsimp only [↓bp, bq, br, seval, tbLims, hw0]
 refine make_buf tfL (by omega) (by omega) (AS.le.refl σ) (fun v σ1 hB1 hx1 => ?_)
 simp -dsimp only [↓bp, bq, br, seval, tbLims]
 refine app_buf (ys := l.map limA) hB1 tfL (asrc_sl tfLE) flat1 (by simp; omega) (fun v σ2 hB2 hx2 => ?_)
 simp -dsimp only [↓bp, bq, br, seval, tbLims]
 rw [List.nil_append] at hB2
 refine loop_intro (fun n e σ' => ∃ (i : Nat) (v : AV), i <= 12 /\ n = 12 - i /\ e 4 = .int .i64 i /\ e 3 = v /\ Buf 1 σ σ' v (l.map limA ++ lmarksTo i)) 12
  ⟨0, v, by omega, by omega, by simp -dsimp only [↓bp, bq, br, seval, tbLims]; try rfl, by simp -dsimp only [↓bp, bq, br, seval, tbLims], by simpa [lmarksTo] using hB2⟩ ?_
 rintro n e2 σ3 ⟨i, v3, hi2, rfl, h4, h3, hB3⟩
 simp -dsimp only [↓bp, bq, br, seval, tbLims] at h4 h3
 simp -dsimp only [↓bp, bq, br, seval, tbLims, h4, h3]
 refine condW_dec (fun hlt => ?_) (fun hge => ?_)
 ·simp -dsimp only [↓bp, bq, br, seval, tbLims, h4, h3]
  refine Pure.use (mark_pure G 1 i) ?_
  simp -dsimp only [↓bp, bq, br, seval, tbLims, h4, h3]
  refine build_one tfL rfl rfl (by omega) ?_
  simp -dsimp only [↓bp, bq, br, seval, tbLims, h4, h3]
  refine app_buf (ys := [lmk (i : Int)]) hB3 tfL (asrc_sl tfLE) (fun a ha => by simp at ha; subst ha; rfl) (by simp [lmarksTo_len]; omega) (fun v4 σ4 hB4 hx4 => ?_)
  simp -dsimp only [↓bp, bq, br, seval, tbLims, h4, h3]
  refine ⟨12 - (i + 1), by omega, i + 1, v4, by omega, rfl, ?_, rfl, ?_⟩
  ·rw [wrap_nat (by omega) (by omega)]; rfl
  ·rw [lmarksTo_succ, <- List.append_assoc]; exact hB4
 ·have : i = 12 := by omega
  subst this
  simp -dsimp only [↓bp, bq, br, seval, tbLims, h4, h3]
  rcases hB3.isNil with ⟨hn, _⟩ | ⟨b, hb⟩
  ·have := congrArg List.length hn; simp [lmarksTo_len] at this
  ·subst hb
   try refine slW_bo ?_
   refine piece (l := 0) (h := l.length) tfLE tf169.1 rfl (by simp [abnd]) (by omega) (by simp) (fun a ha => ?_) (fun g' => ?_)
   ·rw [List.append_nil] at ha
    cases hB3 with
    | own _ _ _ _ _ hx => exact hx a ha
   ·simp -dsimp only [↓bp, bq, br, seval, tbLims, h4, h3]
    refine finish_le ?_ hB3.le
    have e1 : (l.map limA ++ lmarksTo 12).take l.length = l.map limA := by
     rw [List.take_append_of_le_length (by simp), List.take_of_length_le (by simp)]
    have e2 : (l.map limA ++ lmarksTo 12).drop l.length = lmarks := by
     rw [List.drop_append_of_le_length (by simp), List.drop_eq_nil_of_le (by simp)]; rfl
    rw [e1, e2]
    exact Le.gh
theorem len_lentLims {P : Program} {t : TypeId} (l : List UInt32) : ablt P .len #[t] [lentLims l] = if (el P t).isSome then some (.int .i64 l.length) else none := by
 simp [lentLims, l_sl]
theorem sl_lentLims {t : TypeId} (l : List UInt32) (h : Int) (hh : h = l.length + 12) (ht : t = 56) {K : AV -> Prop} {d : Dum K} (hK : ∀ g, K (.sl g (l.map limA ++ lmarks) [])) : bo (aslice Tryz.prog t (lentLims l) none (some (.int .i64 h))) K d := by
 subst hh ht
 refine piece (l := 0) (h := l.length + 12) tfLE tf169.1 rfl (by simp [abnd]; omega) (by omega) (by simp [lmarks, lmarksTo_len]) (fun a ha => ?_) (fun g' => ?_)
 ·rcases List.mem_append.1 ha with ha | ha
  ·exact flat1 a ha
  ·obtain ⟨i, _, rfl⟩ := List.mem_map.1 ha
   rfl
 ·have e1 : ((l.map limA ++ lmarks).take (l.length + 12)).drop 0 = l.map limA ++ lmarks := by
   rw [List.drop_zero, List.take_of_length_le (by simp [lmarks, lmarksTo_len])]
  have e2 : (l.map limA ++ lmarks).drop (l.length + 12) = [] := List.drop_eq_nil_of_le (by simp [lmarks, lmarksTo_len])
  rw [e1, e2]
  have hml : lmarks.length = 12 := by simp [lmarks, lmarksTo_len]
  unfold slim
  split
  ·rename_i heq _
   have h2 : lmarks = [] := by injection heq
   rw [h2] at hml
   cases hml
  ·exact hK g'
theorem keptlims_pure (l : List UInt32) (hl : l.length <= 1000000000) : Pure Tryz.prog G 153 [lentLims l, lims l] (.bool true) := by
 intro σ
 have hw0 : IntKind.i64.wrap ((l.length : Int) + 12) = l.length + 12 := wrap_nat (by omega) (by omega)
 have hml : lmarks.length = 12 := by simp [lmarks, lmarksTo_len]
 refine Tri.of_awp mixed Tryz.func153 rfl (by kernel_rfl) (by kernel_rfl) (by simp [Tryz.ntmps153]) Tryz.results153 ?_
 simp -dsimp only [↓bp, bq, br, seval, tbLims, hw0, len_lentLims]
 try refine slW_bo ?_
 refine sl_lentLims l _ rfl rfl fun g => ?_
 simp -dsimp only [↓bp, bq, br, seval, tbLims]
 refine loop_intro (fun n e σ' => ∃ i : Nat, i <= ((l.map limA ++ lmarks)).length /\ n = ((l.map limA ++ lmarks)).length - i /\ e 6 = .int .i64 i /\ σ.le σ') ((l.map limA ++ lmarks)).length
   ⟨0, by omega, by omega, by simp -dsimp only [↓bp, bq, br, seval, tbLims]; first | done | rfl, AS.le.refl σ⟩ ?_
 rintro n v σ' ⟨i, hi, rfl, h6, hle⟩
 simp -dsimp only [↓bp, bq, br, seval, tbLims] at h6
 simp -dsimp only [↓bp, bq, br, seval, tbLims, h6]
 refine condW_dec (fun hlt => ?_) (fun hge => ?_)
 ·have hl3 : i < l.length + 12 := by rw [List.length_append, List.length_map, hml] at hlt; omega
  by_cases hi2 : (i : Int) < l.length
  ·obtain ⟨k, hk⟩ : ∃ k, l[i]? = some k := ⟨_, List.getElem?_eq_getElem (by omega)⟩
   have hx : (l.map limA ++ lmarks)[i]? = some (limA k) := by rw [List.getElem?_append_left (by simp; omega), List.getElem?_map, hk]; rfl
   have hge : ¬ (l.length : Int) <= i := by omega
   clear hi hlt
   repeat' (first | refine xs ?_ ?_ <;> intros | (refine wn ?_; intro bx hbx; try simp only [fb] at hbx) | refine wj ?_ | simp -dsimp only [↓bp, bq, br, seval, tbLims, limA, isv_lentLims, flat_lentLims, len_lentLims, *] | refine wz ?_ | fail)
   all_goals (have hl2 : (l.map limA ++ lmarks).length = l.length + 12 := by simp [hml])
   all_goals exact ⟨(l.map limA ++ lmarks).length - (i + 1), by omega, i + 1, by omega, rfl, by rw [wrap_nat (by omega) (by omega)]; rfl⟩
  ·have hx : (l.map limA ++ lmarks)[i]? = some (lmk ((i - l.length : Nat) : Int)) := by
    rw [List.getElem?_append_right (by simp; omega), List.length_map]
    have : i - l.length < 12 := by omega
    simp [lmarks, lmarksTo, this]
   have hge : (l.length : Int) <= i := by omega
   have hw1 : IntKind.i64.wrap ((i : Int) - l.length) = ((i - l.length : Nat) : Int) := by rw [wrap_nat (by omega) (by omega)]; omega
   clear hi hlt
   repeat' (first | refine xs ?_ ?_ <;> intros | (refine wn ?_; intro bx hbx; try simp only [fb] at hbx) | refine Pure.use (mark_pure G 1 _) ?_ | refine Pure.head (mark_pure G 1 _) ?_ | refine wj ?_ | simp -dsimp only [↓bp, bq, br, seval, tbLims, lmk, isv_lentLims, flat_lentLims, len_lentLims, *] | refine wz ?_ | fail)
   all_goals (have hl2 : (l.map limA ++ lmarks).length = l.length + 12 := by simp [hml])
   all_goals exact ⟨(l.map limA ++ lmarks).length - (i + 1), by omega, i + 1, by omega, rfl, by rw [wrap_nat (by omega) (by omega)]; rfl⟩
 ·have : i = (l.map limA ++ lmarks).length := by omega
  subst this
  clear hi hge
  repeat' (first | refine xs ?_ ?_ <;> intros | (refine wn ?_; intro bx hbx; try simp only [fb] at hbx) | refine wj ?_ | simp -dsimp only [↓bp, bq, br, seval, tbLims, *] | refine wz ?_ | fail)
  all_goals rfl
end
set_option maxRecDepth 20000
section
def tbTermKit := And.intro (And.intro (And.intro (And.intro @tf3 @tf4) (And.intro @tf5 (And.intro @tf169 @tf9))) (And.intro (And.intro @tf56 (And.intro @tf55 @tf24)) (And.intro @tf58 (And.intro @Term.flat_enc @Term.isv_enc)))) (And.intro (And.intro (And.intro @Term.fold_enc (And.intro @isv_encs @flat_encs)) (And.intro @len_encs (And.intro @ix_encs @ix_encs'))) (And.intro (And.intro @isv_lims (And.intro @flat_lims @len_lims)) (And.intro @ix_lims (And.intro @ix_lims' @flat_limA))))
variable (G : Nat -> AV)
mutual
def same : Term -> Term -> Bool
 | .mk k g l s n ks ts, u => decide ((k.toNat : Int) = u.knd) && (g == u.neg) && decide (l = u.limbs) && decide (s = u.text) && decide (n = u.num) && sames ks u.items && sames ts u.tail
def sames : List Term -> List Term -> Bool
 | [], [] => true
 | a :: l, b :: r => same a b && sames l r
 | _, _ => false
end
theorem same_eq (t u : Term) : same t u = (decide (t.knd = u.knd) && (t.neg == u.neg) && decide (t.limbs = u.limbs) && decide (t.text = u.text) && decide (t.num = u.num) && sames t.items u.items && sames t.tail u.tail) := by
 cases t; rw [same]; rfl
theorem sames_iff_of {l : List Term} (h : ∀ t, t ∈ l -> ∀ u, same t u = true ↔ t = u) : ∀ r, sames l r = true ↔ l = r := by
 induction l with
 | nil => intro r; cases r <;> simp [sames]
 | cons a l ih =>
  intro r
  cases r with
  | nil => simp [sames]
  | cons b r => simp only [sames, Bool.and_eq_true, h a (by simp) b, ih (fun t ht => h t (by simp [ht])) r, List.cons.injEq]
theorem same_iff (t : Term) : ∀ u, same t u = true ↔ t = u := by
 refine Term.ind (P := fun t => ∀ u, same t u = true ↔ t = u) (fun t h1 h2 u => ?_) t
 rw [same_eq]
 simp only [Bool.and_eq_true, decide_eq_true_eq, beq_iff_eq, sames_iff_of h1, sames_iff_of h2]
 constructor
 ·rintro ⟨⟨⟨⟨⟨⟨h, rfl2⟩, h3⟩, h4⟩, h5⟩, h6⟩, h7⟩
  cases t; cases u
  simp only [Term.knd, Term.kind, Term.neg, Term.limbs, Term.text, Term.num, Term.items, Term.tail] at *
  simp only [Term.mk.injEq]
  exact ⟨UInt8.toNat_inj.1 (by omega), rfl2, h3, h4, h5, h6, h7⟩
 ·rintro rfl; simp
theorem sames_iff (l r : List Term) : sames l r = true ↔ l = r := sames_iff_of (fun t _ => same_iff t) r
theorem sames_dec (l r : List Term) (h : l ≠ r) : sames l r = false := by
 cases hs : sames l r with
 | false => rfl
 | true => exact absurd ((sames_iff l r).1 hs) h
theorem samess_pure (l r : List Term) (hl : l.length <= 1000000000) (hr : r.length <= 1000000000) (hf : ∀ x, x ∈ l -> ∀ y, y ∈ r -> Pure Tryz.prog G 96 [x.enc, y.enc] (.bool (same x y))) : Pure Tryz.prog G 94 [encs l, encs r] (.bool (sames l r)) := by
 intro σ
 refine Tri.of_awp mixed Tryz.func94 rfl (by kernel_rfl) (by kernel_rfl) (by simp [Tryz.ntmps94]) Tryz.results94 ?_
 repeat' (first | refine xs ?_ ?_ <;> intros | (refine wn ?_; intro bx hbx; try simp only [fb] at hbx) | refine wj ?_ | simp -dsimp only [↓bp, bq, br, seval, tbTermKit, *] | refine wz ?_ | fail)
 rotate_right
 ·skip
  refine loop_keep mixed (fun n e => ∃ i : Nat, i <= (l).length /\ n = (l).length - i /\ e 5 = .int .i64 i /\ l.take i = r.take i) (l).length
    ⟨0, by omega, by omega, by simp -dsimp only [↓bp, bq, br, seval, tbTermKit]; first | done | rfl, rfl⟩ ?_
  rintro n v ⟨i, hi, rfl, h5, htk⟩
  simp -dsimp only [↓bp, bq, br, seval, tbTermKit] at h5
  simp -dsimp only [↓bp, bq, br, seval, tbTermKit, h5]
  refine condW_dec (fun hlt => ?_) (fun hge => ?_)
  ·obtain ⟨x, hx⟩ : ∃ x, l[i]? = some x := ⟨_, List.getElem?_eq_getElem (by omega)⟩
   obtain ⟨y, hy⟩ : ∃ y, r[i]? = some y := ⟨_, List.getElem?_eq_getElem (by omega)⟩
   have hc := hf x (List.mem_of_getElem? hx) y (List.mem_of_getElem? hy)
   clear hi hlt hf
   repeat' (first | refine xs ?_ ?_ <;> intros | (refine wn ?_; intro bx hbx; try simp only [fb] at hbx) | refine wp hc ?_ | refine wj ?_ | simp -dsimp only [↓bp, bq, br, seval, tbTermKit, *] | refine wz ?_ | fail)
   ·have hxy : same x y = true := by assumption
    have hxy : x = y := (same_iff x y).1 hxy
    subst hxy
    have hlt := (List.getElem?_eq_some_iff.1 hx).1
    exact ⟨l.length - (i + 1), by omega, i + 1, by omega, rfl, by rw [wrap_nat (by omega) (by omega)]; rfl, take_next htk hx hy⟩
   ·have hxy : same x y = false := by assumption
    have : l ≠ r := fun e => by subst e; rw [hx] at hy; simp only [Option.some.injEq] at hy; subst hy; rw [(same_iff x x).2 rfl] at hxy; cases hxy
    rw [sames_dec _ _ this]
  ·have : i = l.length := by omega
   subst this
   have hlr : l = r := take_all (by omega) htk
   clear hi hge hf
   repeat' (first | refine xs ?_ ?_ <;> intros | (refine wn ?_; intro bx hbx; try simp only [fb] at hbx) | refine wj ?_ | simp -dsimp only [↓bp, bq, br, seval, tbTermKit, *] | refine wz ?_ | fail)
   all_goals (subst hlr; rw [(sames_iff l l).2 rfl])
 ·have : l ≠ r := fun e => by subst e; simp_all
  rw [sames_dec _ _ this]
theorem same_pure (t : Term) : ∀ u : Term, t.bulk <= 1000000000 -> u.bulk <= 1000000000 -> Pure Tryz.prog G 96 [t.enc, u.enc] (.bool (same t u)) := by
 refine Term.ind (P := fun t => ∀ u : Term, t.bulk <= 1000000000 -> u.bulk <= 1000000000 -> Pure Tryz.prog G 96 [t.enc, u.enc] (.bool (same t u))) (fun t ih1 ih2 u ht hu => ?_) t
 have h1 := samess_pure G t.items u.items (by have := len_items t; omega) (by have := len_items u; omega) (fun x hx y hy => ih1 x hx y (by have := bulk_item hx; omega) (by have := bulk_item hy; omega))
 have h2 := samess_pure G t.tail u.tail (by have := len_tail t; omega) (by have := len_tail u; omega) (fun x hx y hy => ih2 x hx y (by have := bulk_tail hx; omega) (by have := bulk_tail hy; omega))
 have h3 := samelims_pure G t.limbs u.limbs (by have := len_limbs t; omega) (by have := len_limbs u; omega)
 clear ih1 ih2 ht hu
 intro σ
 refine Tri.of_awp mixed Tryz.func96 rfl (by kernel_rfl) (by kernel_rfl) (by simp [Tryz.ntmps96]) Tryz.results96 ?_
 repeat' (first | refine xs ?_ ?_ <;> intros | (refine wn ?_; intro bx hbx; try simp only [fb] at hbx) | refine wp h1 ?_ | refine wp h2 ?_ | refine wp h3 ?_ | refine wj ?_ | simp -dsimp only [↓bp, bq, br, seval, tbTermKit, *] | refine wz ?_ | fail)
 all_goals (first | (simp only [same_eq, *, Bool.and_true, Bool.true_and, Bool.and_false, Bool.false_and, Bool.or_true, Bool.true_or, Bool.or_false, Bool.false_or, Bool.not_true, Bool.not_false, if_true, if_false, Bool.and_self, Bool.or_self]; done) | (simp [same_eq, *]; done) | (simp_all [same_eq]; done))
end
end Go.Proofs.YtjmdaeabllkgnaaGreatDoor
