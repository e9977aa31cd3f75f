/- What may be written is lent to a function that only tells: it is read as told, and is as it was afterwards. -/
import Derived.Test.YtdhbdhopnpmboaaGreatDoorZ13
import Derived.Test.YtdhbdhopnpmboaaGreatDoorZ12
import Derived.Test.YtdhbdhopnpmboaaGreatDoorZ08
set_option linter.unusedVariables false
set_option linter.unusedSimpArgs false
namespace Go.Av
open Go Go.RowKit
theorem VR.mono2 {K K' : Ctx} (hi : ∀ b o v, K.imm b o = some v -> K'.imm b o = some v) (hr : ∀ b x, K.row b = some x -> K'.row b = some x)
  (ht : ∀ b, b < K.base -> b < K'.base /\ K'.W.heap[b]? = K.W.heap[b]?) {a : AV} {v : Value} (k : VR K a v) : VR K' a v := by
 induction k with
 | undef v => exact .undef v
 | bool b => exact .bool b
 | int k n => exact .int k n
 | str s => exact .str s
 | nil => exact .nil
 | sl g xs sp sz b off cap f hsz hcap hml himm hv hg ih =>
  refine .sl g xs sp sz b off cap f hsz hcap hml (fun j hj => hi _ _ _ (himm j hj)) ih ?_
  cases g with
  | none => exact hg
  | full => exact hg
  | own b' => obtain ⟨h1, h2, E, s, h3⟩ := hg; exact ⟨h1, h2, E, s, hr _ _ h3⟩
 | sl0 a => exact .sl0 a
 | agg cs vs hl h1 hv ih => exact .agg cs vs hl h1 ih
 | tup cs vs hl hv ih => exact .tup cs vs hl ih
 | ptr b o => exact .ptr b o
 | rp cs b off f h1 himm hv ih => exact .rp cs b off f h1 (fun j hj => hi _ _ _ (himm j hj)) ih
 | nilptr => exact .nilptr
 | fn f caps vs hl hv ih => exact .fn f caps vs hl ih
 | nilfn => exact .nilfn
 | bs b n s cap E hr' hn hm => exact .bs b n s cap E (hr _ _ hr') hn hm
 | bp b s cap E hr' => exact .bp b s cap E (hr _ _ hr')
 | raw v => exact .raw v
 | tab vs b E fz hb hw => exact .tab vs b E fz (ht b hb).1 (by rw [(ht b hb).2]; exact hw)
def Ctx.lent (K : Ctx) (σ : AS) (w : World) : Ctx :=
 { imm := fun b o => match σ.box b with | some cs => if o < cs.length then w.cell? ⟨b, o, none⟩ else K.imm b o | none => K.imm b o, row := K.row, base := w.heap.size, W := w }
def tyT : Option (TyE × Nat) -> Option (TyE × Nat)
 | some (.t E, n) => some (.t E, n)
 | _ => none
theorem tyT_some {x : Option (TyE × Nat)} {y : TyE × Nat} (h : tyT x = some y) : ∃ E n, x = some (.t E, n) /\ y = (.t E, n) := by
 unfold tyT at h
 split at h
 ·cases h; exact ⟨_, _, rfl, rfl⟩
 ·cases h
def AS.shut (σ : AS) : AS := { box := fun _ => none, tip := fun _ => none, ty := fun b => tyT (σ.ty b) }
section
variable {G : Nat -> AV} {K : Ctx} {σ : AS} {w : World}
theorem lent_imm (h : Rel G K σ w) : ∀ b o v, K.imm b o = some v -> (K.lent σ w).imm b o = some v := by
 intro b o v hv
 unfold Ctx.lent
 simp only
 cases e : σ.box b with
 | none => exact hv
 | some cs =>
  obtain ⟨_, _, _, h4, _⟩ := h.box b cs e
  rw [h4 o] at hv; cases hv
theorem VR.lent (h : Rel G K σ w) {a : AV} {v : Value} (k : VR K a v) : VR (K.lent σ w) a v :=
 VR.mono2 (lent_imm h) (fun b x hx => hx) (fun b hb => ⟨Nat.lt_of_lt_of_le hb h.bs, h.below.block b hb⟩) k
theorem Rel.lent (h : Rel G K σ w) : Rel G (K.lent σ w) σ.shut w := by
 refine ⟨fun b o v hv => ?_, fun b cap s E hr => ?_, fun b cs hb => (by cases hb), fun b n s ht => (by cases ht), fun b E n ht => ?_, fun g => (h.glob g).lent h, Below.refl _ _, Nat.le_refl _⟩
 ·unfold Ctx.lent at hv
  simp only at hv
  cases e : σ.box b with
  | none => rw [e] at hv; exact h.imm b o v hv
  | some cs =>
   rw [e] at hv
   simp only at hv
   split at hv
   ·exact hv
   ·exact h.imm b o v hv
 ·obtain ⟨cur, fz, h1, h2, h3, _⟩ := h.row b cap s E hr
  exact ⟨cur, fz, h1, h2, h3, fun ⟨x, hx⟩ => by cases hx⟩
 ·obtain ⟨E', n', h1, h2⟩ := tyT_some ht
  cases h2
  exact h.ty b _ _ h1
end
def Lend (G : Nat -> AV) (σ : AS) (a a' : AV) : Prop := ∀ K w u, Rel G K σ w -> VR K a u -> VR (K.lent σ w) a' u
inductive Lends (G : Nat -> AV) (σ : AS) : List AV -> List AV -> Prop
 | nil : Lends G σ [] []
 | cons {a a' : AV} {l l' : List AV} (h : Lend G σ a a') (t : Lends G σ l l') : Lends G σ (a :: l) (a' :: l')
theorem Lend.id {G : Nat -> AV} {σ : AS} (a : AV) : Lend G σ a a := fun K w u hr h => h.lent hr
theorem Lend.le {G : Nat -> AV} {σ : AS} {a b c : AV} (h : Lend G σ a b) (k : Le b c) : Lend G σ a c := fun K w u hr hv => k _ _ (h K w u hr hv)
theorem Lends.ids {G : Nat -> AV} {σ : AS} : ∀ l : List AV, Lends G σ l l
 | [] => .nil
 | a :: l => .cons (.id a) (Lends.ids l)
theorem Lends.length {G : Nat -> AV} {σ : AS} {l l' : List AV} (h : Lends G σ l l') : l.length = l'.length := by
 induction h with
 | nil => rfl
 | cons _ _ ih => simp [ih]
theorem Lends.at_ {G : Nat -> AV} {σ : AS} {l l' : List AV} (h : Lends G σ l l') : ∀ j (h1 : j < l.length) (h2 : j < l'.length), Lend G σ l[j] l'[j] := by
 induction h with
 | nil => intro j h1; cases h1
 | cons h _ ih =>
  intro j h1 h2
  cases j with
  | zero => exact h
  | succ j => exact ih j (by simpa using h1) (by simpa using h2)
theorem Lends.append {G : Nat -> AV} {σ : AS} {a a' b b' : List AV} (h : Lends G σ a a') (k : Lends G σ b b') : Lends G σ (a ++ b) (a' ++ b') := by
 induction h with
 | nil => exact k
 | cons h _ ih => exact .cons h ih
theorem Lends.vrl {G : Nat -> AV} {σ : AS} {l l' : List AV} (h : Lends G σ l l') {K : Ctx} {w : World} (hr : Rel G K σ w) : ∀ {vs : List Value}, VRl K l vs -> VRl (K.lent σ w) l' vs := by
 induction h with
 | nil =>
  intro vs hv
  match vs, hv with
  | [], _ => exact trivial
 | cons h _ ih =>
  intro vs hv
  match vs, hv with
  | v :: vs, ⟨h1, h2⟩ => exact ⟨h K w v hr h1, ih h2⟩
theorem Lend.row {G : Nat -> AV} {σ : AS} {b s : Nat} {E : TypeId} {cs ds : List AV} (hb : σ.box b = some cs) (hl : Lends G σ (cs.take ds.length) ds) (hd : ds.length <= cs.length) {xs sp : List AV} (hx : (xs ++ sp).flatMap flat = ds) (hs0 : 0 < s)
  (hsz : ∀ e, e ∈ xs ++ sp -> (flat e).length = s /\ isv e = true /\ ∀ c, c ∈ flat e -> one c = true) : Lend G σ (.bs b xs.length s E) (.sl .none xs sp) := by
 intro K w u hr hv
 obtain ⟨g1, g2, g3, g4, g5, c, F, hc, hs, hvv⟩ := hr.box b cs hb
 generalize hn : xs.length = n at hv
 cases hv with
 | bs _ _ _ cap _ hrow hn' hm =>
  obtain ⟨cur, fz, h1, h2, h3, _⟩ := hr.row b cap s E hrow
  rw [hc] at h1
  simp only [Option.some.injEq, Obj.cells.injEq] at h1
  obtain ⟨rfl, _, _⟩ := h1
  have hlen : ds.length = (xs.length + sp.length) * s := by
   rw [<- hx]
   have : ∀ l : List AV, (∀ e, e ∈ l -> (flat e).length = s) -> (l.flatMap flat).length = l.length * s := by
    intro l
    induction l with
    | nil => intro _; simp
    | cons x l ih =>
     intro h
     rw [List.flatMap_cons, List.length_append, h x (by simp), ih (fun e he => h e (by simp [he])), List.length_cons, Nat.add_mul, Nat.one_mul, Nat.add_comm]
   rw [this _ (fun e he => (hsz e he).1), List.length_append]
  have hcap : xs.length + sp.length <= cap := by
   have : (xs.length + sp.length) * s <= cap * s := by omega
   exact Nat.le_of_mul_le_mul_right this hs0
  have hval := VR.sl (K := K.lent σ w) .none xs sp s b 0 cap (fun j => c.getD j Go.undef) hsz hcap hm
   (fun j hj => by
     rw [hx] at hj
     rw [Nat.zero_add]
     unfold Ctx.lent
     simp only [hb]
     rw [if_pos (by omega), cell_of_row w b j c F (0, 0) hc]
     have : j < c.size := by omega
     simp [this])
   (fun j hj => by
     have hj' : j < ds.length := by rw [<- hx]; exact hj
     have e : ((xs ++ sp).flatMap flat)[j] = ds[j] := by simp only [hx]
     rw [e]
     have h4 := hl.at_ j (by rw [List.length_take]; omega) hj'
     have h5 : (cs.take ds.length)[j]'(by rw [List.length_take]; omega) = cs[j]'(by omega) := List.getElem_take
     rw [h5] at h4
     exact h4 K w _ hr (hvv j (by omega)))
   trivial
  rw [hn] at hval
  exact hval
theorem Lend.agg {G : Nat -> AV} {σ : AS} {l l' : List AV} (h : Lends G σ l l') (h1 : ∀ c, c ∈ l' -> one c = true) : Lend G σ (.agg l) (.agg l') := by
 intro K w u hr hv
 cases hv with
 | agg _ vs hl _ hv =>
  have hlen := h.length
  exact .agg l' vs (by omega) h1 (fun j hj => h.at_ j (by omega) hj K w _ hr (hv j (by omega)))
def plainV : AV -> Bool
 | .bool _ => true
 | .int _ _ => true
 | .str _ => true
 | .tup l => l.all fun a => match a with | .bool _ => true | .int _ _ => true | .str _ => true | _ => false
 | _ => false
theorem plainV_vr {a : AV} (h : plainV a = true) {K K' : Ctx} {v : Value} (k : VR K a v) : VR K' a v := by
 cases k with
 | bool b => exact .bool b
 | int k n => exact .int k n
 | str s => exact .str s
 | tup cs vs hl hv =>
  refine .tup cs vs hl fun j hj => ?_
  have h1 := hv j hj
  have h2 : (match cs[j] with | .bool _ => true | .int _ _ => true | .str _ => true | _ => false) = true := by
   have := List.all_eq_true.1 h cs[j] (List.getElem_mem hj)
   exact this
  generalize cs[j] = a at *
  generalize vs.getD j Go.undef = u at *
  cases h1 with
  | bool b => exact .bool b
  | int k n => exact .int k n
  | str s => exact .str s
  | _ => cases h2
 | _ => cases h
theorem Pure.lend {P : Program} {G : Nat -> AV} {f : FuncId} {args args' : List AV} {v : AV} (h : Pure P G f args' v) (hv : plainV v = true) {σ : AS} (hl : Lends G σ args args') : Tri P G f args σ fun r s => r = v /\ s = σ := by
 refine ⟨(h σ).1, fun K w vals hr hvl => ?_⟩
 refine ((h σ.shut).2 (K.lent σ w) w vals hr.lent (hl.vrl hr hvl)).mono ?_
 rintro e w' ⟨u, r, s, K', he, ⟨hr1, hs1⟩, h1, h2, h3⟩
 subst hr1
 have hb : Below w.heap.size w w' := by
  have := h2.below
  rw [h3.base, h3.W] at this
  exact this
 exact ⟨u, r, σ, K, he, ⟨rfl, rfl⟩, plainV_vr hv h1, hr.grown hb, Ctx.le.refl K⟩
def ownC (S : Nat -> Bool) : AV -> Bool
 | .bool _ => true
 | .int _ _ => true
 | .str _ => true
 | .nil => true
 | .bs b _ _ _ => S b
 | _ => false
def ownV (S : Nat -> Bool) : AV -> Bool
 | .agg l => l.all (ownC S)
 | .tup l => l.all fun a => match a with | .agg l => l.all (ownC S) | a => ownC S a
 | a => ownC S a
theorem ownC_vr {S : Nat -> Bool} {a : AV} (h : ownC S a = true) {K K' : Ctx} (hr : ∀ b x, S b = true -> K.row b = some x -> K'.row b = some x) {v : Value} (k : VR K a v) : VR K' a v := by
 cases k with
 | bool b => exact .bool b
 | int k n => exact .int k n
 | str s => exact .str s
 | nil => exact .nil
 | bs b n s cap E hr' hn hm => exact .bs b n s cap E (hr b _ h hr') hn hm
 | _ => cases h
theorem ownA_vr {S : Nat -> Bool} {l : List AV} (h : l.all (ownC S) = true) {K K' : Ctx} (hr : ∀ b x, S b = true -> K.row b = some x -> K'.row b = some x) {v : Value} (k : VR K (.agg l) v) : VR K' (.agg l) v := by
 cases k with
 | agg _ vs hl h1 hv => exact .agg l vs hl h1 fun j hj => ownC_vr (List.all_eq_true.1 h _ (List.getElem_mem hj)) hr (hv j hj)
theorem ownV_vr {S : Nat -> Bool} {a : AV} (h : ownV S a = true) {K K' : Ctx} (hr : ∀ b x, S b = true -> K.row b = some x -> K'.row b = some x) {v : Value} (k : VR K a v) : VR K' a v := by
 cases a with
 | agg l => exact ownA_vr h hr k
 | tup l =>
  cases k with
  | tup _ vs hl hv =>
   refine .tup l vs hl fun j hj => ?_
   have h1 := List.all_eq_true.1 h _ (List.getElem_mem hj)
   have h2 := hv j hj
   generalize l[j] = a at *
   cases a with
   | agg l => exact ownA_vr h1 hr h2
   | _ => simp only at h1; exact ownC_vr (S := S) h1 hr h2
 | _ => simp only [ownV] at h; exact ownC_vr (S := S) h hr k
def AS.join (σ : AS) (S : Nat -> Bool) (s : AS) : AS := { σ with box := fun b => match σ.box b with | some cs => some cs | none => if S b = true then s.box b else none }
theorem AS.le_join (σ : AS) (S : Nat -> Bool) (s : AS) : σ.le (σ.join S s) := ⟨fun b cs hb => by simp [AS.join, hb], fun _ _ h => h, fun _ _ h => h⟩
def Ctx.join (K : Ctx) (n : Nat) (K' : Ctx) : Ctx := { K with row := fun b => if b < n then K.row b else K'.row b }
section
variable {G : Nat -> AV} {K K' : Ctx} {σ s : AS} {w w' : World}
theorem Ctx.le_join (h : Rel G K σ w) : K.le (K.join w.heap.size K') := ⟨fun _ _ _ h => h, fun b x hx => by
 have := h.row_lt hx
 simp only [Ctx.join, if_pos this]; exact hx, rfl, rfl⟩
theorem Rel.join (h : Rel G K σ w) (h2 : Rel G K' s w') (h3 : (K.lent σ w).le K') (S : Nat -> Bool) (hS : ∀ b, S b = true -> ∃ cs, s.box b = some cs /\ ∀ c, c ∈ cs -> ownC S c = true) : Rel G (K.join w.heap.size K') (σ.join S s) w' := by
 have hb : Below w.heap.size w w' := by
  have := h2.below
  rw [h3.base, h3.W] at this
  exact this
 have hg := h.grown hb
 have hbase : K'.base = w.heap.size := h3.base
 have hrow : ∀ b x, S b = true -> K'.row b = some x -> (K.join w.heap.size K').row b = some x := fun b x hSb hx => by
  obtain ⟨cs, hc, _⟩ := hS b hSb
  have h4 := (h2.box b cs hc).1
  rw [hbase] at h4
  simp only [Ctx.join]
  rw [if_neg (by omega)]; exact hx
 have htip : ∀ b x, σ.tip b = some x -> b < w.heap.size := fun b x hx => by
  obtain ⟨_, cap, E, hr, _⟩ := h.tip b x.1 x.2 hx
  exact h.row_lt hr
 refine ⟨hg.imm, fun b cap q E hr => ?_, fun b cs hi => ?_, fun b n q ht => ?_, fun b E n ht => (hg.ty b E n ht).mono (Ctx.le_join h), fun g => (hg.glob g).mono (Ctx.le_join h), hg.below, hg.bs⟩
 ·by_cases hlt : b < w.heap.size
  ·simp only [Ctx.join, if_pos hlt] at hr
   exact hg.row b cap q E hr
  ·simp only [Ctx.join, if_neg hlt] at hr
   obtain ⟨cur, fz, q1, q2, q3, _⟩ := h2.row b cap q E hr
   exact ⟨cur, fz, q1, q2, q3, fun ⟨x, hx⟩ => absurd (htip b x hx) hlt⟩
 ·cases e : σ.box b with
  | some ds =>
   have hi' : ds = cs := by simpa [AS.join, e] using hi
   subst hi'
   obtain ⟨q1, q2, q3, q4, q5, c, E, q6, q7, q8⟩ := hg.box b ds e
   exact ⟨q1, q2, q3, q4, q5, c, E, q6, q7, fun j hj => (q8 j hj).mono (Ctx.le_join h)⟩
  | none =>
   have hi' : (if S b = true then s.box b else none) = some cs := by simpa [AS.join, e] using hi
   split at hi'
   case isFalse => cases hi'
   rename_i hSb
   obtain ⟨q1, q2, q3, q4, q5, c, E, q6, q7, q8⟩ := h2.box b cs hi'
   rw [hbase] at q1
   obtain ⟨cs', hc', hown⟩ := hS b hSb
   rw [hi'] at hc'
   cases hc'
   refine ⟨Nat.le_trans h.bs q1, ?_, trivial, fun o => h.imm_none q1 o, q5, c, E, q6, q7, fun j hj => ownC_vr (hown _ (List.getElem_mem hj)) hrow (q8 j hj)⟩
   exact (h.fresh q1).2.1
 ·obtain ⟨q1, cap, E, q2, q3, q4⟩ := hg.tip b n q ht
  exact ⟨q1, cap, E, (Ctx.le_join h).row _ _ q2, q3, q4⟩
end
theorem app_any {P : Program} {n by_ : Nat} {σ0 σ : AS} {x : AV} {xs ys : List AV} {t tx e : TypeId} {K : AV -> AS -> Prop} {d : Dum σ} {d' : Dum K} (hle : σ0.le σ) (hxs : ∀ a, a ∈ xs -> (Av.flat a).length = n) (he : aelt P t = some (e, n, by_)) (hs : asrc P tx x = some ys)
  (hys : ∀ a, a ∈ ys -> (Av.flat a).length = n) (hb : (xs.length + ys.length) * by_ <= 140737488355328) (hK : ∀ v' σ', σ0.le σ' -> σ'.box = σ.box -> Le v' (.sl .none (xs ++ ys) []) -> one v' = true -> K v' σ') : appW P σ t tx (.sl .full xs []) x K d d' :=
 app_full hle hxs he hs hys hb (fun h => hK _ _ hle rfl (by subst h; rw [List.append_nil]; exact Le.gh) rfl) (fun v' σ' hB hx => hK _ _ hB.le hx hB.told (by generalize xs ++ ys = z at hB; cases hB <;> rfl))
theorem make_row {P : Program} {n by_ : Nat} {σ : AS} {t e : TypeId} {k k' : IntKind} {zz : List AV} (l : Nat) {K : AV -> AS -> Prop} {d : Dum σ} {d' : Dum K} (he : aelt P t = some (e, n, by_)) (hz : (el P t).bind (zc P) = some zz) (hb : l * by_ <= 140737488355328)
  (hK : ∀ b, σ.fresh b -> K (.bs b l n e) (σ.setBox b (List.replicate l zz).flatten)) : makeW P σ t (.int k l) (.int k' l) K d d' := by
 refine .inr ?_
 unfold amakeM
 rw [he, hz]
 refine ⟨by omega, by omega, by rw [<- Int.natCast_mul]; omega, fun b hf => ?_⟩
 exact hK b hf
theorem Tri.inf {P : Program} {G : Nat -> AV} {f : FuncId} {args : List AV} {σ : AS} {Q : AV -> AS -> Prop} (h : Tri P G f args σ Q) : Tri P G f args σ fun r s => Q r s /\ Inf s :=
 ⟨h.1, fun K w vals hr hv => (h.2 K w vals hr hv).mono (by rintro e w' ⟨u, r, s, K', he, hQ, h1, h2, h3⟩; exact ⟨u, r, s, K', he, ⟨hQ, infOf h2⟩, h1, h2, h3⟩)⟩
def Mk.row (n s : Nat) (E : TypeId) (cs : List AV) : Mk := ⟨fun b => .bs b n s E, cs⟩
end Go.Av
set_option maxRecDepth 20000
namespace Go.Proofs.YtdhbdhopnpmboaaGreatDoor
open Go Go.Av
variable (G : Nat -> AV)
end Go.Proofs.YtdhbdhopnpmboaaGreatDoor
set_option maxRecDepth 20000
namespace Go.Proofs.YtdhbdhopnpmboaaGreatDoor
open Go Go.Av
variable (G : Nat -> AV)
end Go.Proofs.YtdhbdhopnpmboaaGreatDoor
namespace Go.Proofs.YtdhbdhopnpmboaaGreatDoor
open Go Go.Av
def back : List UInt8 -> Nat
 | [] => 0
 | c :: l => (c.toNat - 48) + 10 * back l
theorem val_inj : ∀ {a b : List UInt32}, a.length = b.length -> val a = val b -> a = b
 | [], [], _, _ => rfl
 | x :: a, y :: b, hl, h => by
  simp only [val] at h
  have hx := x.toNat_lt
  have hy := y.toNat_lt
  have h1 : x.toNat = y.toNat := by omega
  have h2 : val a = val b := by omega
  rw [UInt32.toNat_inj.1 h1, val_inj (by simpa using hl) h2]
end Go.Proofs.YtdhbdhopnpmboaaGreatDoor
namespace Go.Proofs.YtdhbdhopnpmboaaGreatDoor
open Go Go.Av
def limbsN : Nat -> Nat -> List UInt32
 | 0, _ => []
 | n + 1, v => UInt32.ofNat (v % 4294967296) :: limbsN n (v / 4294967296)
theorem limbsN_len : ∀ n v, (limbsN n v).length = n
 | 0, _ => rfl
 | n + 1, v => by rw [limbsN, List.length_cons, limbsN_len n]
theorem limbsN_val : ∀ n v, v < 4294967296 ^ n -> val (limbsN n v) = v
 | 0, v, h => by simp at h; subst h; rfl
 | n + 1, v, h => by
  rw [limbsN, val, limbsN_val n (v / 4294967296) (by rw [Nat.pow_succ] at h; omega), UInt32.toNat_ofNat']
  omega
def limbsB (l : List Bool) : List UInt32 := limbsN ((l.length + 31) / 32) (bv l)
theorem pow32 (n : Nat) : 4294967296 ^ n = 2 ^ (32 * n) := by rw [Nat.pow_mul]
theorem limbsB_val (l : List Bool) : val (limbsB l) = bv l := by
 refine limbsN_val _ _ (Nat.lt_of_lt_of_le (bv_lt l) ?_)
 rw [pow32]
 exact Nat.pow_le_pow_right (by omega) (by omega)
theorem limbsB_len (l : List Bool) : (limbsB l).length = (l.length + 31) / 32 := limbsN_len _ _
theorem bv_append : ∀ (a b : List Bool), bv (a ++ b) = bv a + 2 ^ a.length * bv b
 | [], b => by simp [bv]
 | d :: a, b => by
  rw [List.cons_append, bv, bv, bv_append a b, List.length_cons, Nat.pow_succ, Nat.mul_add, Nat.mul_assoc, Nat.mul_left_comm]
  omega
theorem val_set : ∀ (l : List UInt32) (q : Nat) (x y : UInt32) (d : Nat), l[q]? = some x -> y.toNat = x.toNat + d -> val (l.set q y) = val l + 4294967296 ^ q * d
 | [], q, x, y, d, h, _ => by simp at h
 | a :: l, 0, x, y, d, h, hy => by
  simp at h; subst h
  simp only [List.set_cons_zero, val, hy, Nat.pow_zero, Nat.one_mul]; omega
 | a :: l, q + 1, x, y, d, h, hy => by
  rw [List.set_cons_succ, val, val, val_set l q x y d (by simpa using h) hy, Nat.pow_succ]
  rw [Nat.mul_add, Nat.mul_comm (4294967296 ^ q) 4294967296, Nat.mul_assoc]
  omega
theorem val_top : ∀ (l : List UInt32) (q : Nat) (x : UInt32), l[q]? = some x -> 4294967296 ^ q * x.toNat <= val l
 | [], q, x, h => by simp at h
 | a :: l, 0, x, h => by simp at h; subst h; simp only [val, Nat.pow_zero, Nat.one_mul]; omega
 | a :: l, q + 1, x, h => by
  have := val_top l q x (by simpa using h)
  rw [val, Nat.pow_succ, Nat.mul_comm (4294967296 ^ q) 4294967296, Nat.mul_assoc]
  omega
theorem top_bit {L : List UInt32} {i : Nat} {x : UInt32} (hv : val L < 2 ^ i) (hx : L[i / 32]? = some x) : x.toNat < 2 ^ (i % 32) := by
 have h := val_top L (i / 32) x hx
 rw [pow32] at h
 have e : 2 ^ i = 2 ^ (32 * (i / 32)) * 2 ^ (i % 32) := by rw [<- Nat.pow_add]; congr 1; omega
 rw [e] at hv
 exact Nat.lt_of_mul_lt_mul_left (Nat.lt_of_le_of_lt h hv)
theorem pow_split (i : Nat) : 4294967296 ^ (i / 32) * 2 ^ (i % 32) = 2 ^ i := by
 rw [pow32, <- Nat.pow_add]; congr 1; omega
theorem or_top {x r : Nat} (hr : r < 32) (hx : x < 2 ^ r) : IntKind.u32.wrap (((BitVec.ofInt IntKind.u32.bits (x : Int) ||| BitVec.ofInt IntKind.u32.bits (IntKind.u32.wrap (1 * 2 ^ min ((r : Int)).toNat IntKind.u32.bits))).toNat : Nat) : Int) = ((x + 2 ^ r : Nat) : Int) := by
 have hb : IntKind.u32.bits = 32 := rfl
 have h1 : min ((r : Int)).toNat IntKind.u32.bits = r := by rw [hb]; omega
 rw [h1]
 have h2 : (1 : Int) * 2 ^ r = ((2 ^ r : Nat) : Int) := by simp
 have h3 : 2 ^ r <= 2 ^ 31 := Nat.pow_le_pow_right (by omega) (by omega)
 have h4 : (2 : Nat) ^ 31 = 2147483648 := by decide
 have h5 : IntKind.u32.wrap ((2 ^ r : Nat) : Int) = ((2 ^ r : Nat) : Int) := u32_wrap (by omega) (by omega)
 rw [h2, h5, hb, BitVec.toNat_or, BitVec.toNat_ofInt, BitVec.toNat_ofInt]
 have e1 : ((x : Int) % ((2 ^ 32 : Nat) : Int)).toNat = x := by omega
 have e2 : (((2 ^ r : Nat) : Int) % ((2 ^ 32 : Nat) : Int)).toNat = 2 ^ r := by
  have : ((2 ^ 32 : Nat) : Int) = 4294967296 := by decide
  rw [this]
  generalize 2 ^ r = p at *
  omega
 rw [e1, e2]
 have e3 : x ||| 2 ^ r = x + 2 ^ r := by
  have := Nat.two_pow_add_eq_or_of_lt hx 1
  rw [Nat.mul_one] at this
  rw [Nat.or_comm, <- this, Nat.add_comm]
 rw [e3]
 exact u32_wrap (by omega) (by omega)
def bitsN (m : Nat) : List Bool := if h : m = 0 then [] else decide (m % 2 = 1) :: bitsN (m / 2)
termination_by m
decreasing_by omega
theorem bitsN_zero : bitsN 0 = [] := by rw [bitsN]; simp
theorem bitsN_step {m : Nat} (h : m ≠ 0) : bitsN m = decide (m % 2 = 1) :: bitsN (m / 2) := by rw [bitsN, dif_neg h]
theorem bitsN_bv (m : Nat) : bv (bitsN m) = m := by
 induction m using Nat.strongRecOn with
 | _ m ih =>
  by_cases h : m = 0
  ·subst h; rw [bitsN_zero]; rfl
  ·rw [bitsN_step h, bv, ih (m / 2) (by omega)]
   by_cases e : m % 2 = 1
   ·simp [e]; omega
   ·simp [e]; omega
theorem bitsN_len : ∀ (k m : Nat), m < 2 ^ k -> (bitsN m).length <= k
 | 0, m, h => by
  have : m = 0 := by simp at h; omega
  subst this; rw [bitsN_zero]; simp
 | k + 1, m, h => by
  by_cases h0 : m = 0
  ·subst h0; rw [bitsN_zero]; simp
  ·rw [bitsN_step h0, List.length_cons]
   have := bitsN_len k (m / 2) (by rw [Nat.pow_succ] at h; omega)
   omega
end Go.Proofs.YtdhbdhopnpmboaaGreatDoor
