/- What may be written is lent to a function that only tells: it is read as told, and is as it was afterwards. -/
import Derived.Test.YtdhbdhopnpmboaaGreatDoorZ13
import Derived.Test.YtdhbdhopnpmboaaGreatDoorZ12
import Derived.Test.YtdhbdhopnpmboaaGreatDoorZ08
set_option linter.unusedVariables false
set_option linter.unusedSimpArgs false
set_option linter.defProp false
namespace Go.Av
open Go Go.RowKit
theorem VR.mono2 {K K' : Ctx} (hi : ∀ b o v, K.imm b o = some v -> K'.imm b o = some v) (hr : ∀ b x, K.row b = some x -> K'.row b = some x)
  (ht : ∀ b, b < K.base -> b < K'.base /\ K'.W.heap[b]? = K.W.heap[b]?) {a : AV} {v : Value} (k : VR K a v) : VR K' a v := by
 induction k with
 | undef v => exact .undef v
 | bool b => exact .bool b
 | int k n => exact .int k n
 | str s => exact .str s
 | nil => exact .nil
 | sl g xs sp sz b off cap f hsz hcap hml himm hv hg ih =>
  refine .sl g xs sp sz b off cap f hsz hcap hml (fun j hj => hi _ _ _ (himm j hj)) ih ?_
  cases g with
  | none => exact hg
  | full => exact hg
  | own b' => obtain ⟨h1, h2, E, s, h3⟩ := hg; exact ⟨h1, h2, E, s, hr _ _ h3⟩
 | sl0 a => exact .sl0 a
 | agg cs vs hl h1 hv ih => exact .agg cs vs hl h1 ih
 | tup cs vs hl hv ih => exact .tup cs vs hl ih
 | ptr b o => exact .ptr b o
 | rp cs b off f h1 himm hv ih => exact .rp cs b off f h1 (fun j hj => hi _ _ _ (himm j hj)) ih
 | nilptr => exact .nilptr
 | fn f caps vs hl hv ih => exact .fn f caps vs hl ih
 | nilfn => exact .nilfn
 | bs b n s cap E hr' hn hm => exact .bs b n s cap E (hr _ _ hr') hn hm
 | bp b s cap E hr' => exact .bp b s cap E (hr _ _ hr')
 | raw v => exact .raw v
 | tab vs b E fz hb hw => exact .tab vs b E fz (ht b hb).1 (by rw [(ht b hb).2]; exact hw)
def Ctx.lent (K : Ctx) (σ : AS) (w : World) : Ctx :=
 { imm := fun b o => match σ.box b with | some cs => if o < cs.length then w.cell? ⟨b, o, none⟩ else K.imm b o | none => K.imm b o, row := K.row, base := w.heap.size, W := w }
def tyT : Option (TyE × Nat) -> Option (TyE × Nat)
 | some (.t E, n) => some (.t E, n)
 | _ => none
theorem tyT_some {x : Option (TyE × Nat)} {y : TyE × Nat} (h : tyT x = some y) : ∃ E n, x = some (.t E, n) /\ y = (.t E, n) := by
 unfold tyT at h
 split at h
 ·cases h; exact ⟨_, _, rfl, rfl⟩
 ·cases h
def AS.shut (σ : AS) : AS := { box := fun _ => none, tip := fun _ => none, ty := fun b => tyT (σ.ty b) }
section
variable {G : Nat -> AV} {K : Ctx} {σ : AS} {w : World}
theorem lent_imm (h : Rel G K σ w) : ∀ b o v, K.imm b o = some v -> (K.lent σ w).imm b o = some v := by
 intro b o v hv
 unfold Ctx.lent
 simp only
 cases e : σ.box b with
 | none => exact hv
 | some cs =>
  obtain ⟨_, _, _, h4, _⟩ := h.box b cs e
  rw [h4 o] at hv; cases hv
theorem VR.lent (h : Rel G K σ w) {a : AV} {v : Value} (k : VR K a v) : VR (K.lent σ w) a v :=
 VR.mono2 (lent_imm h) (fun b x hx => hx) (fun b hb => ⟨Nat.lt_of_lt_of_le hb h.bs, h.below.block b hb⟩) k
theorem Rel.lent (h : Rel G K σ w) : Rel G (K.lent σ w) σ.shut w := by
 refine ⟨fun b o v hv => ?_, fun b cap s E hr => ?_, fun b cs hb => (by cases hb), fun b n s ht => (by cases ht), fun b E n ht => ?_, fun g => (h.glob g).lent h, Below.refl _ _, Nat.le_refl _⟩
 ·unfold Ctx.lent at hv
  simp only at hv
  cases e : σ.box b with
  | none => rw [e] at hv; exact h.imm b o v hv
  | some cs =>
   rw [e] at hv
   simp only at hv
   split at hv
   ·exact hv
   ·exact h.imm b o v hv
 ·obtain ⟨cur, fz, h1, h2, h3, _⟩ := h.row b cap s E hr
  exact ⟨cur, fz, h1, h2, h3, fun ⟨x, hx⟩ => by cases hx⟩
 ·obtain ⟨E', n', h1, h2⟩ := tyT_some ht
  cases h2
  exact h.ty b _ _ h1
end
def Lend (G : Nat -> AV) (σ : AS) (a a' : AV) : Prop := ∀ K w u, Rel G K σ w -> VR K a u -> VR (K.lent σ w) a' u
inductive Lends (G : Nat -> AV) (σ : AS) : List AV -> List AV -> Prop
 | nil : Lends G σ [] []
 | cons {a a' : AV} {l l' : List AV} (h : Lend G σ a a') (t : Lends G σ l l') : Lends G σ (a :: l) (a' :: l')
theorem Lend.id {G : Nat -> AV} {σ : AS} (a : AV) : Lend G σ a a := fun K w u hr h => h.lent hr
theorem Lend.le {G : Nat -> AV} {σ : AS} {a b c : AV} (h : Lend G σ a b) (k : Le b c) : Lend G σ a c := fun K w u hr hv => k _ _ (h K w u hr hv)
theorem Lends.ids {G : Nat -> AV} {σ : AS} : ∀ l : List AV, Lends G σ l l
 | [] => .nil
 | a :: l => .cons (.id a) (Lends.ids l)
theorem Lends.length {G : Nat -> AV} {σ : AS} {l l' : List AV} (h : Lends G σ l l') : l.length = l'.length := by
 induction h with
 | nil => rfl
 | cons _ _ ih => simp [ih]
theorem Lends.at_ {G : Nat -> AV} {σ : AS} {l l' : List AV} (h : Lends G σ l l') : ∀ j (h1 : j < l.length) (h2 : j < l'.length), Lend G σ l[j] l'[j] := by
 induction h with
 | nil => intro j h1; cases h1
 | cons h _ ih =>
  intro j h1 h2
  cases j with
  | zero => exact h
  | succ j => exact ih j (by simpa using h1) (by simpa using h2)
theorem Lends.append {G : Nat -> AV} {σ : AS} {a a' b b' : List AV} (h : Lends G σ a a') (k : Lends G σ b b') : Lends G σ (a ++ b) (a' ++ b') := by
 induction h with
 | nil => exact k
 | cons h _ ih => exact .cons h ih
theorem Lends.vrl {G : Nat -> AV} {σ : AS} {l l' : List AV} (h : Lends G σ l l') {K : Ctx} {w : World} (hr : Rel G K σ w) : ∀ {vs : List Value}, VRl K l vs -> VRl (K.lent σ w) l' vs := by
 induction h with
 | nil =>
  intro vs hv
  match vs, hv with
  | [], _ => exact trivial
 | cons h _ ih =>
  intro vs hv
  match vs, hv with
  | v :: vs, ⟨h1, h2⟩ => exact ⟨h K w v hr h1, ih h2⟩
theorem Lend.row {G : Nat -> AV} {σ : AS} {b s : Nat} {E : TypeId} {cs ds : List AV} (hb : σ.box b = some cs) (hl : Lends G σ (cs.take ds.length) ds) (hd : ds.length <= cs.length) {xs sp : List AV} (hx : (xs ++ sp).flatMap flat = ds) (hs0 : 0 < s)
  (hsz : ∀ e, e ∈ xs ++ sp -> (flat e).length = s /\ isv e = true /\ ∀ c, c ∈ flat e -> one c = true) : Lend G σ (.bs b xs.length s E) (.sl .none xs sp) := by
 intro K w u hr hv
 obtain ⟨g1, g2, g3, g4, g5, c, F, hc, hs, hvv⟩ := hr.box b cs hb
 generalize hn : xs.length = n at hv
 cases hv with
 | bs _ _ _ cap _ hrow hn' hm =>
  obtain ⟨cur, fz, h1, h2, h3, _⟩ := hr.row b cap s E hrow
  rw [hc] at h1
  simp only [Option.some.injEq, Obj.cells.injEq] at h1
  obtain ⟨rfl, _, _⟩ := h1
  have hlen : ds.length = (xs.length + sp.length) * s := by
   rw [<- hx]
   have : ∀ l : List AV, (∀ e, e ∈ l -> (flat e).length = s) -> (l.flatMap flat).length = l.length * s := by
    intro l
    induction l with
    | nil => intro _; simp
    | cons x l ih =>
     intro h
     rw [List.flatMap_cons, List.length_append, h x (by simp), ih (fun e he => h e (by simp [he])), List.length_cons, Nat.add_mul, Nat.one_mul, Nat.add_comm]
   rw [this _ (fun e he => (hsz e he).1), List.length_append]
  have hcap : xs.length + sp.length <= cap := by
   have : (xs.length + sp.length) * s <= cap * s := by omega
   exact Nat.le_of_mul_le_mul_right this hs0
  have hval := VR.sl (K := K.lent σ w) .none xs sp s b 0 cap (fun j => c.getD j Go.undef) hsz hcap hm
   (fun j hj => by
     rw [hx] at hj
     rw [Nat.zero_add]
     unfold Ctx.lent
     simp only [hb]
     rw [if_pos (by omega), cell_of_row w b j c F (0, 0) hc]
     have : j < c.size := by omega
     simp [this])
   (fun j hj => by
     have hj' : j < ds.length := by rw [<- hx]; exact hj
     have e : ((xs ++ sp).flatMap flat)[j] = ds[j] := by simp only [hx]
     rw [e]
     have h4 := hl.at_ j (by rw [List.length_take]; omega) hj'
     have h5 : (cs.take ds.length)[j]'(by rw [List.length_take]; omega) = cs[j]'(by omega) := List.getElem_take
     rw [h5] at h4
     exact h4 K w _ hr (hvv j (by omega)))
   trivial
  rw [hn] at hval
  exact hval
theorem Lend.agg {G : Nat -> AV} {σ : AS} {l l' : List AV} (h : Lends G σ l l') (h1 : ∀ c, c ∈ l' -> one c = true) : Lend G σ (.agg l) (.agg l') := by
 intro K w u hr hv
 cases hv with
 | agg _ vs hl _ hv =>
  have hlen := h.length
  exact .agg l' vs (by omega) h1 (fun j hj => h.at_ j (by omega) hj K w _ hr (hv j (by omega)))
def plainV : AV -> Bool
 | .bool _ => true
 | .int _ _ => true
 | .str _ => true
 | .tup l => l.all fun a => match a with | .bool _ => true | .int _ _ => true | .str _ => true | _ => false
 | _ => false
theorem plainV_vr {a : AV} (h : plainV a = true) {K K' : Ctx} {v : Value} (k : VR K a v) : VR K' a v := by
 cases k with
 | bool b => exact .bool b
 | int k n => exact .int k n
 | str s => exact .str s
 | tup cs vs hl hv =>
  refine .tup cs vs hl fun j hj => ?_
  have h1 := hv j hj
  have h2 : (match cs[j] with | .bool _ => true | .int _ _ => true | .str _ => true | _ => false) = true := by
   have := List.all_eq_true.1 h cs[j] (List.getElem_mem hj)
   exact this
  generalize cs[j] = a at *
  generalize vs.getD j Go.undef = u at *
  cases h1 with
  | bool b => exact .bool b
  | int k n => exact .int k n
  | str s => exact .str s
  | _ => cases h2
 | _ => cases h
theorem Pure.lend {P : Program} {G : Nat -> AV} {f : FuncId} {args args' : List AV} {v : AV} (h : Pure P G f args' v) (hv : plainV v = true) {σ : AS} (hl : Lends G σ args args') : Tri P G f args σ fun r s => r = v /\ s = σ := by
 refine ⟨(h σ).1, fun K w vals hr hvl => ?_⟩
 refine ((h σ.shut).2 (K.lent σ w) w vals hr.lent (hl.vrl hr hvl)).mono ?_
 rintro e w' ⟨u, r, s, K', he, ⟨hr1, hs1⟩, h1, h2, h3⟩
 subst hr1
 have hb : Below w.heap.size w w' := by
  have := h2.below
  rw [h3.base, h3.W] at this
  exact this
 exact ⟨u, r, σ, K, he, ⟨rfl, rfl⟩, plainV_vr hv h1, hr.grown hb, Ctx.le.refl K⟩
def ownC (S : Nat -> Bool) : AV -> Bool
 | .bool _ => true
 | .int _ _ => true
 | .str _ => true
 | .nil => true
 | .bs b _ _ _ => S b
 | _ => false
def ownV (S : Nat -> Bool) : AV -> Bool
 | .agg l => l.all (ownC S)
 | .tup l => l.all fun a => match a with | .agg l => l.all (ownC S) | a => ownC S a
 | a => ownC S a
theorem ownC_vr {S : Nat -> Bool} {a : AV} (h : ownC S a = true) {K K' : Ctx} (hr : ∀ b x, S b = true -> K.row b = some x -> K'.row b = some x) {v : Value} (k : VR K a v) : VR K' a v := by
 cases k with
 | bool b => exact .bool b
 | int k n => exact .int k n
 | str s => exact .str s
 | nil => exact .nil
 | bs b n s cap E hr' hn hm => exact .bs b n s cap E (hr b _ h hr') hn hm
 | _ => cases h
theorem ownA_vr {S : Nat -> Bool} {l : List AV} (h : l.all (ownC S) = true) {K K' : Ctx} (hr : ∀ b x, S b = true -> K.row b = some x -> K'.row b = some x) {v : Value} (k : VR K (.agg l) v) : VR K' (.agg l) v := by
 cases k with
 | agg _ vs hl h1 hv => exact .agg l vs hl h1 fun j hj => ownC_vr (List.all_eq_true.1 h _ (List.getElem_mem hj)) hr (hv j hj)
theorem ownV_vr {S : Nat -> Bool} {a : AV} (h : ownV S a = true) {K K' : Ctx} (hr : ∀ b x, S b = true -> K.row b = some x -> K'.row b = some x) {v : Value} (k : VR K a v) : VR K' a v := by
 cases a with
 | agg l => exact ownA_vr h hr k
 | tup l =>
  cases k with
  | tup _ vs hl hv =>
   refine .tup l vs hl fun j hj => ?_
   have h1 := List.all_eq_true.1 h _ (List.getElem_mem hj)
   have h2 := hv j hj
   generalize l[j] = a at *
   cases a with
   | agg l => exact ownA_vr h1 hr h2
   | _ => simp only at h1; exact ownC_vr (S := S) h1 hr h2
 | _ => simp only [ownV] at h; exact ownC_vr (S := S) h hr k
def AS.join (σ : AS) (S : Nat -> Bool) (s : AS) : AS := { σ with box := fun b => match σ.box b with | some cs => some cs | none => if S b = true then s.box b else none }
theorem AS.le_join (σ : AS) (S : Nat -> Bool) (s : AS) : σ.le (σ.join S s) := ⟨fun b cs hb => by simp [AS.join, hb], fun _ _ h => h, fun _ _ h => h⟩
def Ctx.join (K : Ctx) (n : Nat) (K' : Ctx) : Ctx := { K with row := fun b => if b < n then K.row b else K'.row b }
section
variable {G : Nat -> AV} {K K' : Ctx} {σ s : AS} {w w' : World}
theorem Ctx.le_join (h : Rel G K σ w) : K.le (K.join w.heap.size K') := ⟨fun _ _ _ h => h, fun b x hx => by
 have := h.row_lt hx
 simp only [Ctx.join, if_pos this]; exact hx, rfl, rfl⟩
theorem Rel.join (h : Rel G K σ w) (h2 : Rel G K' s w') (h3 : (K.lent σ w).le K') (S : Nat -> Bool) (hS : ∀ b, S b = true -> ∃ cs, s.box b = some cs /\ ∀ c, c ∈ cs -> ownC S c = true) : Rel G (K.join w.heap.size K') (σ.join S s) w' := by
 have hb : Below w.heap.size w w' := by
  have := h2.below
  rw [h3.base, h3.W] at this
  exact this
 have hg := h.grown hb
 have hbase : K'.base = w.heap.size := h3.base
 have hrow : ∀ b x, S b = true -> K'.row b = some x -> (K.join w.heap.size K').row b = some x := fun b x hSb hx => by
  obtain ⟨cs, hc, _⟩ := hS b hSb
  have h4 := (h2.box b cs hc).1
  rw [hbase] at h4
  simp only [Ctx.join]
  rw [if_neg (by omega)]; exact hx
 have htip : ∀ b x, σ.tip b = some x -> b < w.heap.size := fun b x hx => by
  obtain ⟨_, cap, E, hr, _⟩ := h.tip b x.1 x.2 hx
  exact h.row_lt hr
 refine ⟨hg.imm, fun b cap q E hr => ?_, fun b cs hi => ?_, fun b n q ht => ?_, fun b E n ht => (hg.ty b E n ht).mono (Ctx.le_join h), fun g => (hg.glob g).mono (Ctx.le_join h), hg.below, hg.bs⟩
 ·by_cases hlt : b < w.heap.size
  ·simp only [Ctx.join, if_pos hlt] at hr
   exact hg.row b cap q E hr
  ·simp only [Ctx.join, if_neg hlt] at hr
   obtain ⟨cur, fz, q1, q2, q3, _⟩ := h2.row b cap q E hr
   exact ⟨cur, fz, q1, q2, q3, fun ⟨x, hx⟩ => absurd (htip b x hx) hlt⟩
 ·cases e : σ.box b with
  | some ds =>
   have hi' : ds = cs := by simpa [AS.join, e] using hi
   subst hi'
   obtain ⟨q1, q2, q3, q4, q5, c, E, q6, q7, q8⟩ := hg.box b ds e
   exact ⟨q1, q2, q3, q4, q5, c, E, q6, q7, fun j hj => (q8 j hj).mono (Ctx.le_join h)⟩
  | none =>
   have hi' : (if S b = true then s.box b else none) = some cs := by simpa [AS.join, e] using hi
   split at hi'
   case isFalse => cases hi'
   rename_i hSb
   obtain ⟨q1, q2, q3, q4, q5, c, E, q6, q7, q8⟩ := h2.box b cs hi'
   rw [hbase] at q1
   obtain ⟨cs', hc', hown⟩ := hS b hSb
   rw [hi'] at hc'
   cases hc'
   refine ⟨Nat.le_trans h.bs q1, ?_, trivial, fun o => h.imm_none q1 o, q5, c, E, q6, q7, fun j hj => ownC_vr (hown _ (List.getElem_mem hj)) hrow (q8 j hj)⟩
   exact (h.fresh q1).2.1
 ·obtain ⟨q1, cap, E, q2, q3, q4⟩ := hg.tip b n q ht
  exact ⟨q1, cap, E, (Ctx.le_join h).row _ _ q2, q3, q4⟩
end
theorem app_any {P : Program} {n by_ : Nat} {σ0 σ : AS} {x : AV} {xs ys : List AV} {t tx e : TypeId} {K : AV -> AS -> Prop} {d : Dum σ} {d' : Dum K} (hle : σ0.le σ) (hxs : ∀ a, a ∈ xs -> (Av.flat a).length = n) (he : aelt P t = some (e, n, by_)) (hs : asrc P tx x = some ys)
  (hys : ∀ a, a ∈ ys -> (Av.flat a).length = n) (hb : (xs.length + ys.length) * by_ <= 140737488355328) (hK : ∀ v' σ', σ0.le σ' -> σ'.box = σ.box -> Le v' (.sl .none (xs ++ ys) []) -> one v' = true -> K v' σ') : appW P σ t tx (.sl .full xs []) x K d d' :=
 app_full hle hxs he hs hys hb (fun h => hK _ _ hle rfl (by subst h; rw [List.append_nil]; exact Le.gh) rfl) (fun v' σ' hB hx => hK _ _ hB.le hx hB.told (by generalize xs ++ ys = z at hB; cases hB <;> rfl))
theorem make_row {P : Program} {n by_ : Nat} {σ : AS} {t e : TypeId} {k k' : IntKind} {zz : List AV} (l : Nat) {K : AV -> AS -> Prop} {d : Dum σ} {d' : Dum K} (he : aelt P t = some (e, n, by_)) (hz : (el P t).bind (zc P) = some zz) (hb : l * by_ <= 140737488355328)
  (hK : ∀ b, σ.fresh b -> K (.bs b l n e) (σ.setBox b (List.replicate l zz).flatten)) : makeW P σ t (.int k l) (.int k' l) K d d' := by
 refine .inr ?_
 unfold amakeM
 rw [he, hz]
 refine ⟨by omega, by omega, by rw [<- Int.natCast_mul]; omega, fun b hf => ?_⟩
 exact hK b hf
theorem freeze_use {P : Program} {G : Nat -> AV} {f : FuncId} {σ : AS} {b n s : Nat} {E : TypeId} {xs cs : List AV} {v : AV} {K : AV -> AS -> Prop} {d : Dum σ} {d' : Dum K} (hb : σ.box b = some cs) (hi : Items n s xs cs) (h : Pure P G f [.sl (.own b) xs []] v) (hk : K v (σ.froze b n s)) : triW P G f [.bs b n s E] σ K d d' :=
 Tri.freeze b n s xs cs hb hi ⟨.bs b n s E, by simp, Has.bs⟩ (.cons (.here E) .nil) ((h _).mono fun r s ⟨h1, h2⟩ => by subst h1 h2; exact hk)
theorem Tri.inf {P : Program} {G : Nat -> AV} {f : FuncId} {args : List AV} {σ : AS} {Q : AV -> AS -> Prop} (h : Tri P G f args σ Q) : Tri P G f args σ fun r s => Q r s /\ Inf s :=
 ⟨h.1, fun K w vals hr hv => (h.2 K w vals hr hv).mono (by rintro e w' ⟨u, r, s, K', he, hQ, h1, h2, h3⟩; exact ⟨u, r, s, K', he, ⟨hQ, infOf h2⟩, h1, h2, h3⟩)⟩
def Mk.row (n s : Nat) (E : TypeId) (cs : List AV) : Mk := ⟨fun b => .bs b n s E, cs⟩
end Go.Av
set_option maxRecDepth 20000
namespace Go.Proofs.YtdhbdhopnpmboaaGreatDoor
open Go Go.Av
def tbRefP := And.intro (And.intro (And.intro (And.intro @tf3 (And.intro @tf4 @tf5)) (And.intro @tf47 (And.intro @tf128 @tf9))) (And.intro (And.intro @tf23 (And.intro @tf22 @tf24)) (And.intro @tf26 (And.intro @tf129 @tf106)))) (And.intro (And.intro (And.intro @Term.flat_enc (And.intro @Term.isv_enc @Term.fold_enc)) (And.intro @isv_encs (And.intro @flat_encs @len_encs))) (And.intro (And.intro @isv_lims (And.intro @flat_lims @len_lims)) (And.intro (And.intro @isv_bools @flat_bools) (And.intro @len_bools @ix_bools))))
variable (G : Nat -> AV)
theorem rep_bools (n : Nat) : (List.replicate n [AV.bool false]).flatten = (List.replicate n false).map AV.bool := by
 induction n with
 | zero => rfl
 | succ n ih => rw [List.replicate_succ, List.flatten_cons, ih, List.replicate_succ]; rfl
theorem tzB : (el Tryz.prog 129).bind (zc Tryz.prog) = some [.bool false] := by kernel_rfl
theorem items_bools (l : List Bool) : Items l.length 1 (l.map AV.bool) (l.map AV.bool) := by
 have := Items.ones (xs := l.map AV.bool) (fun a ha => by
  obtain ⟨x, _, rfl⟩ := List.mem_map.1 ha
  exact ⟨rfl, rfl⟩)
 rwa [List.length_map] at this
def qrow (a b : List Bool) (n : Nat) : List Bool := List.replicate n false ++ (partsL (a.drop n) b).1
theorem qrow_len (a b : List Bool) (n : Nat) (h : n <= a.length) : (qrow a b n).length = a.length := by
 unfold qrow
 rw [List.length_append, List.length_replicate, (partsL_len b _).1, List.length_drop]; omega
theorem qrow_step {a b : List Bool} {n : Nat} {x : Bool} (hx : a[n]? = some x) : qrow a b n = (qrow a b (n + 1)).set n (stepP x (partsL (a.drop (n + 1)) b).2 b).2 := by
 unfold qrow
 rw [drop_get _ _ _ hx, partsL]
 generalize (partsL (a.drop (n + 1)) b).1 = q
 generalize (stepP x (partsL (a.drop (n + 1)) b).2 b).2 = d
 refine List.ext_getElem? fun j => ?_
 rw [List.getElem?_set]
 by_cases h : n = j
 ·subst h
  rw [if_pos rfl, if_pos (by simp; omega), List.getElem?_append_right (by simp)]
  simp
 ·rw [if_neg h]
  by_cases h2 : j < n
  ·rw [List.getElem?_append_left (by simpa using h2), List.getElem?_append_left (by simp; omega), List.getElem?_replicate, List.getElem?_replicate, if_pos h2, if_pos (by omega)]
  ·rw [List.getElem?_append_right (by simp; omega), List.getElem?_append_right (by simp; omega)]
   simp only [List.length_replicate]
   rw [show j - n = (j - (n + 1)) + 1 by omega, List.getElem?_cons_succ]
theorem set_bools (l : List Bool) (i : Nat) (h : i < l.length) (d : Bool) : (l.map AV.bool).take i ++ [AV.bool d] ++ (l.map AV.bool).drop (i + 1) = (l.set i d).map AV.bool := by
 rw [List.set_eq_take_append_cons_drop, if_pos h]
 simp
theorem set_same {l : List Bool} {i : Nat} (h : l[i]? = some false) : l.set i false = l := by
 refine List.ext_getElem? fun j => ?_
 rw [List.getElem?_set]
 by_cases e : i = j
 ·subst e
  rw [if_pos rfl, if_pos (List.getElem?_eq_some_iff.1 h).1, h]
 ·rw [if_neg e]
set_option maxHeartbeats 4000000 in
theorem parts_pure (a b : List Bool) (ha : a.length <= 100000) (hb : b.length <= 100000) : Pure Tryz.prog G 126 [bools a, bools b] (.tup [bools (cutB (partsL a b).1), bools (partsL a b).2]) := by
 have hlen := fun n => partsL_len b (a.drop n)
 have hw0 : IntKind.i64.wrap ((a.length : Int) - 1) = a.length - 1 := wrap_nat (by omega) (by omega)
 refine Pure.of_le fun σ => ?_
 refine Tri.of_awp mixed Tryz.func126 rfl (by kernel_rfl) (by kernel_rfl) (by simp [Tryz.ntmps126]) Tryz.results126 ?_
 repeat' (first | refine xs ?_ ?_ <;> intros | (refine wn ?_; intro bx hbx; try simp only [fb] at hbx) | refine wj ?_ | simp -dsimp only [↓bp, bq, br, seval, tbRefP, hw0, *] | refine wz ?_ | fail)
 refine make_row a.length tbB tzB (by omega) (fun qb hq => ?_)
 have hσq : σ.le (σ.setBox qb (List.replicate a.length [AV.bool false]).flatten) := le_set hq (AS.le.refl σ)
 repeat' (first | refine xs ?_ ?_ <;> intros | (refine wn ?_; intro bx hbx; try simp only [fb] at hbx) | refine wj ?_ | simp -dsimp only [↓bp, bq, br, seval, tbRefP, hw0, *] | refine wz ?_ | fail)
 refine loop_intro (fun n e σ' => ∃ v7 : AV, n <= a.length /\ e 8 = .int .i64 ((n : Int) - 1) /\ e 7 = v7 /\ asrc Tryz.prog 129 v7 = some ((partsL (a.drop n) b).2.map AV.bool) /\ Le v7 (bools (partsL (a.drop n) b).2) /\ σ.le σ' /\ σ'.box qb = some ((qrow a b n).map AV.bool)) a.length
  ⟨.nil, Nat.le_refl _, by first | (simp -dsimp only [↓bp, bq, br, seval, tbRefP, hw0]; done) | (simp -dsimp only [↓bp, bq, br, seval, tbRefP, hw0]; try rfl), by first | (simp -dsimp only [↓bp, bq, br, seval, tbRefP]; done) | (simp -dsimp only [↓bp, bq, br, seval, tbRefP]; try rfl), by rw [List.drop_length]; unfold asrc; rw [tbBE]; rfl, by rw [List.drop_length]; exact Le.nil, hσq, by simp [AS.setBox, qrow, rep_bools, partsL]⟩ ?_
 rintro n e1 σ2 ⟨v7, hn, h8, h7, hs7, hl7, hle, hqb⟩
 clear hσq hw0
 simp -dsimp only [↓bp, bq, br, seval, tbRefP] at h8 h7
 cases n with
 | zero =>
  have hc : (0 <= ((0 : Nat) : Int) - 1) = False := eq_false (by omega)
  have hcut := cut_pure G (qrow a b 0) (by rw [qrow_len _ _ _ (by omega)]; omega)
  have hit := items_bools (qrow a b 0)
  rw [qrow_len _ _ _ (by omega)] at hit
  have hc2 : Pure Tryz.prog G 152 [.sl (.own qb) ((qrow a b 0).map AV.bool) []] (bools (cutB (qrow a b 0))) := hcut.lessArgs (.cons Le.gh .nil)
  have hq0 : qrow a b 0 = (partsL a b).1 := by simp [qrow]
  rw [List.drop_zero] at hl7
  have hfl : σ.le (σ2.froze qb a.length 1) := AS.froze_le hle hq.1 hq.2.1
  repeat' (first | refine xs ?_ ?_ <;> intros | (refine wn ?_; intro bx hbx; try simp only [fb] at hbx) | refine wj ?_ | simp -dsimp only [↓bp, bq, br, seval, tbRefP, *] | refine wz ?_ | fail)
  refine freeze_use hqb hit hc2 ?_
  rw [hq0]
  repeat' (first | refine xs ?_ ?_ <;> intros | (refine wn ?_; intro bx hbx; try simp only [fb] at hbx) | refine wj ?_ | simp -dsimp only [↓bp, bq, br, seval, tbRefP, *] | refine wz ?_ | fail)
  exact finishW_some σ hfl ⟨Le.tup (.cons (Le.refl _) (.cons hl7 .nil)), rfl⟩
 | succ n =>
  obtain ⟨x, hx⟩ : ∃ x, a[n]? = some x := ⟨_, List.getElem?_eq_getElem (by omega)⟩
  have hc : (0 <= (n : Int)) = True := eq_true (by omega)
  have e8 : ((n + 1 : Nat) : Int) - 1 = n := by omega
  rw [e8] at h8
  have hwk : IntKind.i64.wrap ((n : Int) - 1) = n - 1 := wrap_nat (by omega) (by omega)
  have hdr := drop_get _ _ _ hx
  have hqs := qrow_step (b := b) hx
  have h2 : (partsL (a.drop n) b).2 = (stepP x (partsL (a.drop (n + 1)) b).2 b).1 := by rw [hdr, partsL]
  have hrl : (partsL (a.drop (n + 1)) b).2.length <= 100000 := by
   have := (hlen (n + 1)).2
   rw [List.length_drop] at this
   omega
  have hq1 : (qrow a b (n + 1))[n]? = some false := by
   unfold qrow
   rw [List.getElem?_append_left (by simp), List.getElem?_replicate, if_pos (by omega)]
  have hql := qrow_len a b (n + 1) hn
  generalize (partsL (a.drop (n + 1)) b).2 = r at *
  have hcl := cutB_len (x :: r)
  simp only [List.length_cons] at hcl
  have hcut := cut_pure G (x :: r) (by simp only [List.length_cons]; omega)
  have hbel := below_pure G (cutB (x :: r)) b (by omega) (by omega)
  have hles := less_pure G (cutB (x :: r)) b (by omega) (by omega)
  clear hlen hdr hcl
  repeat' (first | refine xs ?_ ?_ <;> intros | (refine wn ?_; intro bx hbx; try simp only [fb] at hbx) | (refine app_any (ys := r.map AV.bool) (AS.le.refl _) (fun a ha => by simp at ha; subst ha; rfl) tbB hs7 (fun a ha => by obtain ⟨y, _, rfl⟩ := List.mem_map.1 ha; rfl) (by simp; omega) (fun v3 σ3 hle3 hbx3 hl3 ho3 => ?_)) | refine wj ?_ | simp -dsimp only [↓bp, bq, br, seval, tbRefP, *] | refine wz ?_ | fail)
  have hcu := hcut.lessArgs (args := [v3]) (.cons hl3 .nil)
  have hle4 := hle.trans hle3
  have hb3 : σ3.box qb = some ((qrow a b (n + 1)).map AV.bool) := by rw [hbx3]; exact hqb
  have has : ∀ l : List Bool, asrc Tryz.prog 129 (bools l) = some (l.map AV.bool) := fun l => by unfold asrc bools; rw [tbBE]; rfl
  clear hcut hl3 hbx3 hqb hle hle3 hs7 hl7 h7
  by_cases hbl : below (cutB (x :: r)) b = true
  ·rw [hbl] at hbel
   have hst : stepP x r b = (cutB (x :: r), false) := by unfold stepP; rw [if_pos hbl]
   rw [hst] at hqs h2
   rw [set_same hq1] at hqs
   clear hles hbl hst
   repeat' (first | refine xs ?_ ?_ <;> intros | (refine wn ?_; intro bx hbx; try simp only [fb] at hbx) | refine wp hcu ?_ | refine wp hbel ?_ | refine wj ?_ | simp -dsimp only [↓bp, bq, br, seval, tbRefP, hwk, *] | refine wz ?_ | fail)
   exact ⟨n, by omega, _, by omega, rfl, rfl, by rw [h2]; exact has _, by rw [h2]; exact Le.refl _, by rw [hqs]⟩
  ·have hbl' : below (cutB (x :: r)) b = false := by simpa using hbl
   rw [hbl'] at hbel
   have hst : stepP x r b = (lessB (cutB (x :: r)) b, true) := by unfold stepP; rw [if_neg hbl]
   rw [hst] at hqs h2
   have hsb := set_bools (qrow a b (n + 1)) n (by omega) true
   rw [<- hqs] at hsb
   have hnl : (n : Int) < a.length := by omega
   have hnl2 : n + 1 <= ((qrow a b (n + 1)).map AV.bool).length := by rw [List.length_map]; omega
   have hle5 := le_set (cs := (qrow a b n).map AV.bool) hq hle4
   have hbq5 : (σ3.setBox qb ((qrow a b n).map AV.bool)).box qb = some ((qrow a b n).map AV.bool) := AS.set_get
   clear hbl hbl' hst
   repeat' (first | refine xs ?_ ?_ <;> intros | (refine wn ?_; intro bx hbx; try simp only [fb] at hbx) | refine wp hcu ?_ | refine wp hbel ?_ | refine wp hles ?_ | refine wj ?_ | simp -dsimp only [↓bp, bq, br, seval, tbRefP, hwk, *] | refine wz ?_ | fail)
   refine ⟨n, by omega, _, by omega, rfl, rfl, by rw [h2]; exact has _, by rw [h2]; exact Le.refl _, ?_⟩
   rw [Nat.mul_one, hsb]
   exact ⟨hle5, rfl⟩
end Go.Proofs.YtdhbdhopnpmboaaGreatDoor
set_option maxRecDepth 20000
namespace Go.Proofs.YtdhbdhopnpmboaaGreatDoor
open Go Go.Av
def tbRefT := And.intro (And.intro (And.intro (And.intro @tf3 (And.intro @tf4 @tf5)) (And.intro @tf47 (And.intro @tf128 @tf9))) (And.intro (And.intro @tf23 (And.intro @tf45 @tf22)) (And.intro (And.intro @tf24 @tf26) (And.intro @tf129 @tf106)))) (And.intro (And.intro (And.intro @Term.flat_enc (And.intro @Term.isv_enc @Term.fold_enc)) (And.intro @isv_encs (And.intro @flat_encs @len_encs))) (And.intro (And.intro @isv_lims (And.intro @flat_lims @len_lims)) (And.intro (And.intro @isv_bools @flat_bools) (And.intro @len_bools @ix_bools))))
variable (G : Nat -> AV)
theorem bv_drop : ∀ (l : List Bool) (k : Nat), bv (l.drop k) <= bv l
 | [], k => by simp
 | d :: l, 0 => by simp
 | d :: l, k + 1 => by have := bv_drop l k; simp only [List.drop_succ_cons, bv]; omega
theorem digs_zero : digs 0 = [] := by rw [digs]; simp
theorem digs_ahead {n : Nat} (h : n ≠ 0) (s : List UInt8) : (digs (n / 10)).reverse ++ (UInt8.ofNat (48 + n % 10) :: s) = (digs n).reverse ++ s := by
 have e : digs n = UInt8.ofNat (48 + n % 10) :: digs (n / 10) := by rw [digs, dif_neg h]
 rw [e]; simp
theorem dig_byte2 (d : Nat) (h : d < 10) : IntKind.u8.wrap (48 + (d : Int)) = ((UInt8.ofNat (48 + d)).toNat : Int) := by
 rw [ofNat_toNat (by omega)]
 have : d = 0 \/ d = 1 \/ d = 2 \/ d = 3 \/ d = 4 \/ d = 5 \/ d = 6 \/ d = 7 \/ d = 8 \/ d = 9 := by omega
 rcases this with rfl | rfl | rfl | rfl | rfl | rfl | rfl | rfl | rfl | rfl <;> decide
set_option maxHeartbeats 4000000 in
theorem rwtext_pure (t : Term) (hb : t.bulk <= 1000000) : Pure Tryz.prog G 85 [t.enc] (.str (if wr t = true then wsaid t else [])) := by
 have hr := rright_pure G t (by omega)
 cases ew : wr t with
 | false =>
  rw [ew] at hr
  intro σ
  refine Tri.of_awp mixed Tryz.func85 rfl (by kernel_rfl) (by kernel_rfl) (by simp [Tryz.ntmps85]) Tryz.results85 ?_
  repeat' (first | refine xs ?_ ?_ <;> intros | (refine wn ?_; intro bx hbx; try simp only [fb] at hbx) | refine wp hr ?_ | refine wj ?_ | simp -dsimp only [↓bp, bq, br, seval, tbRefT, *] | refine wz ?_ | fail)
  all_goals rfl
 | true =>
  rw [ew] at hr
  rw [if_pos rfl]
  have h32 := (wr_spec ew).2.2.2.2.2.1
  have hbi := bits_pure G t (by omega)
  have hdb := dig_bound h32
  have hL0 : bv (cutB (bitsL t.limbs)) = val t.limbs := by rw [bv_cut, bv_bits]
  have hLl : (cutB (bitsL t.limbs)).length <= 100000 := by have := cutB_len (bitsL t.limbs); have := bitsL_len t.limbs; omega
  have hLc : (cutB (bitsL t.limbs)).length = 0 ↔ bv (cutB (bitsL t.limbs)) = 0 := by rw [bv_cut]; exact cut_len _
  generalize cutB (bitsL t.limbs) = L0 at *
  generalize hV : val t.limbs = V at *
  have hsaid : wsaid t = (if t.neg = true then [45] else []) ++ decT V := by unfold wsaid; rw [hV]
  rw [hsaid]
  clear ew hb hV hsaid h32
  intro σ
  refine Tri.of_awp mixed Tryz.func85 rfl (by kernel_rfl) (by kernel_rfl) (by simp [Tryz.ntmps85]) Tryz.results85 ?_
  simp -dsimp only [↓bp, bq, br, seval, tbRefT]
  refine newW_intro fun b1 hb1 => ?_
  have hle1 := le_set (cs := [.int .u8 t.knd, .bool t.neg, lims t.limbs, .str t.text, .int .i64 t.num, encs t.items, encs t.tail]) hb1 (AS.le.refl σ)
  repeat' (first | refine xs ?_ ?_ <;> intros | (refine wn ?_; intro bx hbx; try simp only [fb] at hbx) | refine wp hr ?_ | refine wp hbi ?_ | refine wj ?_ | simp -dsimp only [↓bp, bq, br, seval, tbRefT, *] | refine wz ?_ | fail)
  refine loop_keep mixed (fun n e => ∃ (L : List Bool) (S : List UInt8), n = bv L /\ e 3 = bools L /\ e 4 = .str S /\ L.length <= 100000 /\ (L.length = 0 ↔ bv L = 0) /\ (digs (bv L)).reverse ++ S = (digs V).reverse) (bv L0)
   ⟨L0, [], rfl, by first | (simp -dsimp only [↓bp, bq, br, seval, tbRefT]; done) | (simp -dsimp only [↓bp, bq, br, seval, tbRefT]; try rfl), by first | (simp -dsimp only [↓bp, bq, br, seval, tbRefT]; done) | (simp -dsimp only [↓bp, bq, br, seval, tbRefT]; try rfl), hLl, hLc, by rw [hL0, List.append_nil]⟩ ?_
  clear hr hbi hL0 hLl hLc
  rintro n e1 ⟨L, S, rfl, h3, h4, hLl, hLc, hS⟩
  simp -dsimp only [↓bp, bq, br, seval, tbRefT] at h3 h4
  by_cases hz : bv L = 0
  ·have hl0 : (0 < (L.length : Int)) = False := eq_false (by have := hLc.2 hz; omega)
   rw [hz, digs_zero] at hS
   have hS : S = (digs V).reverse := by simpa using hS
   have hSl : S.length <= 309 := by rw [hS, List.length_reverse]; exact hdb
   have hdec : decT V = if S = [] then [48] else S := by
    unfold decT
    by_cases hv : V = 0
    ·rw [if_pos hv, if_pos (by rw [hS, hv, digs_zero]; rfl)]
    ·rw [if_neg hv, if_neg (by rw [hS]; simp [digs_ne hv]), hS]
   rw [hdec]
   have m1 : 1 + S.length <= maxLen := by unfold maxLen; omega
   have m2 : ([45] : List UInt8).length + S.length <= maxLen := m1
   have m3 : ([45] : List UInt8).length + ([48] : List UInt8).length <= maxLen := by decide
   clear hS hLc hLl hdb hdec hz
   by_cases hs : S = []
   ·rw [if_pos hs]
    have hs := eq_true hs
    cases hg : t.neg
    all_goals
     repeat' (first | refine xs ?_ ?_ <;> intros | (refine wn ?_; intro bx hbx; try simp only [fb] at hbx) | refine wj ?_ | simp -dsimp only [↓bp, bq, br, seval, tbRefT, *] | refine wz ?_ | fail)
     all_goals rfl
   ·rw [if_neg hs]
    have hs := eq_false hs
    cases hg : t.neg
    all_goals
     repeat' (first | refine xs ?_ ?_ <;> intros | (refine wn ?_; intro bx hbx; try simp only [fb] at hbx) | refine wj ?_ | simp -dsimp only [↓bp, bq, br, seval, tbRefT, *] | refine wz ?_ | fail)
     all_goals rfl
  ·have hl0 : (0 < (L.length : Int)) = True := eq_true (by have := mt hLc.1 hz; omega)
   have hp := (parts_pure G L tenB hLl (by decide)).lessArgs (args := [bools L, .sl .full [.bool false, .bool true, .bool false, .bool true] []]) (.cons (Le.refl _) (.cons Le.gh .nil))
   obtain ⟨q1, q2⟩ := parts_ten L
   have hrl := (partsL_len tenB L).2
   have hql := cutB_len (partsL L tenB).1
   rw [(partsL_len tenB L).1] at hql
   have hqc := cut_len (partsL L tenB).1
   rw [<- bv_cut] at hqc
   generalize cutB (partsL L tenB).1 = Q at *
   generalize (partsL L tenB).2 = R at *
   have hR9 : bv R <= 9 := by omega
   have hahead := digs_ahead hz S
   rw [<- q1, <- q2] at hahead
   have hSl : S.length <= 309 := by
    have := congrArg List.length hS
    simp only [List.length_append, List.length_reverse] at this
    omega
   have m1 : ([UInt8.ofNat (48 + bv R)] : List UInt8).length + S.length <= maxLen := by simp only [List.length_cons, List.length_nil]; unfold maxLen; omega
   have hbyte := dig_byte2 (bv R) (by omega)
   have hwR : IntKind.i64.wrap ((R.length : Int) - 1) = R.length - 1 := wrap_nat (by omega) (by omega)
   have hw48 : IntKind.i64.wrap (48 + (bv R : Int)) = 48 + bv R := wrap_nat (by omega) (by omega)
   have hlt : bv Q < bv L := by omega
   have hby : bytesOf [AV.int .u8 ((UInt8.ofNat (48 + bv R)).toNat : Int)] = some [UInt8.ofNat (48 + bv R)] := bytesOf_bytesA [UInt8.ofNat (48 + bv R)]
   have hfin : (digs (bv Q)).reverse ++ (UInt8.ofNat (48 + bv R) :: S) = (digs V).reverse := by rw [hahead]; exact hS
   clear q1 q2 hahead hS
   generalize UInt8.ofNat (48 + bv R) = c at *
   repeat' (first | refine xs ?_ ?_ <;> intros | (refine wn ?_; intro bx hbx; try simp only [fb] at hbx) | refine wp hp ?_ | refine wj ?_ | simp -dsimp only [↓bp, bq, br, seval, tbRefT, hwR, *] | refine wz ?_ | fail)
   refine loop_keep mixed (fun k e => k <= R.length /\ e 8 = .int .i64 ((k : Int) - 1) /\ e 7 = .int .i64 (bv (R.drop k) : Nat)) R.length
    ⟨Nat.le_refl _, by first | (simp -dsimp only [↓bp, bq, br, seval, tbRefT, hwR]; done) | (simp -dsimp only [↓bp, bq, br, seval, tbRefT, hwR]; try rfl), by rw [List.drop_length]; first | (simp -dsimp only [↓bp, bq, br, seval, tbRefT]; done) | (simp -dsimp only [↓bp, bq, br, seval, tbRefT]; try rfl)⟩ ?_
   clear hp hwR
   rintro k e2 ⟨hk, h8, h7⟩
   simp -dsimp only [↓bp, bq, br, seval, tbRefT] at h8 h7
   cases k with
   | zero =>
    have hc : (0 <= ((0 : Nat) : Int) - 1) = False := eq_false (by omega)
    rw [List.drop_zero] at h7
    repeat' (first | refine xs ?_ ?_ <;> intros | (refine wn ?_; intro bx hbx; try simp only [fb] at hbx) | refine wj ?_ | simp -dsimp only [↓bp, bq, br, seval, tbRefT, *] | refine wz ?_ | fail)
    exact ⟨bv Q, hlt, Q, _, rfl, rfl, rfl, by omega, hqc, hfin⟩
   | succ k =>
    obtain ⟨x, hx⟩ : ∃ x, R[k]? = some x := ⟨_, List.getElem?_eq_getElem (by omega)⟩
    have e8 : ((k + 1 : Nat) : Int) - 1 = k := by omega
    rw [e8] at h8
    have hc : (0 <= (k : Int)) = True := eq_true (by omega)
    have hwk : IntKind.i64.wrap ((k : Int) - 1) = k - 1 := wrap_nat (by omega) (by omega)
    have hd := bv_drop R k
    have hdr := drop_get _ _ _ hx
    rw [hdr, bv] at hd
    have hw2 : IntKind.i64.wrap (2 * (bv (R.drop (k + 1)) : Int)) = 2 * bv (R.drop (k + 1)) := wrap_nat (by omega) (by omega)
    have hw3 : IntKind.i64.wrap (2 * (bv (R.drop (k + 1)) : Int) + 1) = 2 * bv (R.drop (k + 1)) + 1 := wrap_nat (by omega) (by omega)
    have hv : bv (R.drop k) = x.toNat + 2 * bv (R.drop (k + 1)) := by rw [hdr, bv]
    generalize bv (R.drop (k + 1)) = D at *
    cases x
    ·simp -dsimp only [↓bp, bq, br, seval, tbRefT, h8, h7, hc, hwk, hx, hw2]
     exact ⟨k, by omega, by omega, rfl, by rw [hv]; simp⟩
    ·simp -dsimp only [↓bp, bq, br, seval, tbRefT, h8, h7, hc, hwk, hx, hw2, hw3]
     exact ⟨k, by omega, by omega, rfl, by rw [hv]; simp; omega⟩
end Go.Proofs.YtdhbdhopnpmboaaGreatDoor
namespace Go.Proofs.YtdhbdhopnpmboaaGreatDoor
open Go Go.Av
def back : List UInt8 -> Nat
 | [] => 0
 | c :: l => (c.toNat - 48) + 10 * back l
theorem val_inj : ∀ {a b : List UInt32}, a.length = b.length -> val a = val b -> a = b
 | [], [], _, _ => rfl
 | x :: a, y :: b, hl, h => by
  simp only [val] at h
  have hx := x.toNat_lt
  have hy := y.toNat_lt
  have h1 : x.toNat = y.toNat := by omega
  have h2 : val a = val b := by omega
  rw [UInt32.toNat_inj.1 h1, val_inj (by simpa using hl) h2]
end Go.Proofs.YtdhbdhopnpmboaaGreatDoor
namespace Go.Proofs.YtdhbdhopnpmboaaGreatDoor
open Go Go.Av
def limbsN : Nat -> Nat -> List UInt32
 | 0, _ => []
 | n + 1, v => UInt32.ofNat (v % 4294967296) :: limbsN n (v / 4294967296)
theorem limbsN_len : ∀ n v, (limbsN n v).length = n
 | 0, _ => rfl
 | n + 1, v => by rw [limbsN, List.length_cons, limbsN_len n]
theorem limbsN_val : ∀ n v, v < 4294967296 ^ n -> val (limbsN n v) = v
 | 0, v, h => by simp at h; subst h; rfl
 | n + 1, v, h => by
  rw [limbsN, val, limbsN_val n (v / 4294967296) (by rw [Nat.pow_succ] at h; omega), UInt32.toNat_ofNat']
  omega
def limbsB (l : List Bool) : List UInt32 := limbsN ((l.length + 31) / 32) (bv l)
theorem pow32 (n : Nat) : 4294967296 ^ n = 2 ^ (32 * n) := by rw [Nat.pow_mul]
theorem limbsB_val (l : List Bool) : val (limbsB l) = bv l := by
 refine limbsN_val _ _ (Nat.lt_of_lt_of_le (bv_lt l) ?_)
 rw [pow32]
 exact Nat.pow_le_pow_right (by omega) (by omega)
theorem limbsB_len (l : List Bool) : (limbsB l).length = (l.length + 31) / 32 := limbsN_len _ _
theorem bv_append : ∀ (a b : List Bool), bv (a ++ b) = bv a + 2 ^ a.length * bv b
 | [], b => by simp [bv]
 | d :: a, b => by
  rw [List.cons_append, bv, bv, bv_append a b, List.length_cons, Nat.pow_succ, Nat.mul_add, Nat.mul_assoc, Nat.mul_left_comm]
  omega
theorem val_set : ∀ (l : List UInt32) (q : Nat) (x y : UInt32) (d : Nat), l[q]? = some x -> y.toNat = x.toNat + d -> val (l.set q y) = val l + 4294967296 ^ q * d
 | [], q, x, y, d, h, _ => by simp at h
 | a :: l, 0, x, y, d, h, hy => by
  simp at h; subst h
  simp only [List.set_cons_zero, val, hy, Nat.pow_zero, Nat.one_mul]; omega
 | a :: l, q + 1, x, y, d, h, hy => by
  rw [List.set_cons_succ, val, val, val_set l q x y d (by simpa using h) hy, Nat.pow_succ]
  rw [Nat.mul_add, Nat.mul_comm (4294967296 ^ q) 4294967296, Nat.mul_assoc]
  omega
theorem val_top : ∀ (l : List UInt32) (q : Nat) (x : UInt32), l[q]? = some x -> 4294967296 ^ q * x.toNat <= val l
 | [], q, x, h => by simp at h
 | a :: l, 0, x, h => by simp at h; subst h; simp only [val, Nat.pow_zero, Nat.one_mul]; omega
 | a :: l, q + 1, x, h => by
  have := val_top l q x (by simpa using h)
  rw [val, Nat.pow_succ, Nat.mul_comm (4294967296 ^ q) 4294967296, Nat.mul_assoc]
  omega
theorem top_bit {L : List UInt32} {i : Nat} {x : UInt32} (hv : val L < 2 ^ i) (hx : L[i / 32]? = some x) : x.toNat < 2 ^ (i % 32) := by
 have h := val_top L (i / 32) x hx
 rw [pow32] at h
 have e : 2 ^ i = 2 ^ (32 * (i / 32)) * 2 ^ (i % 32) := by rw [<- Nat.pow_add]; congr 1; omega
 rw [e] at hv
 exact Nat.lt_of_mul_lt_mul_left (Nat.lt_of_le_of_lt h hv)
theorem pow_split (i : Nat) : 4294967296 ^ (i / 32) * 2 ^ (i % 32) = 2 ^ i := by
 rw [pow32, <- Nat.pow_add]; congr 1; omega
theorem or_top {x r : Nat} (hr : r < 32) (hx : x < 2 ^ r) : IntKind.u32.wrap (((BitVec.ofInt IntKind.u32.bits (x : Int) ||| BitVec.ofInt IntKind.u32.bits (IntKind.u32.wrap (1 * 2 ^ min ((r : Int)).toNat IntKind.u32.bits))).toNat : Nat) : Int) = ((x + 2 ^ r : Nat) : Int) := by
 have hb : IntKind.u32.bits = 32 := rfl
 have h1 : min ((r : Int)).toNat IntKind.u32.bits = r := by rw [hb]; omega
 rw [h1]
 have h2 : (1 : Int) * 2 ^ r = ((2 ^ r : Nat) : Int) := by simp
 have h3 : 2 ^ r <= 2 ^ 31 := Nat.pow_le_pow_right (by omega) (by omega)
 have h4 : (2 : Nat) ^ 31 = 2147483648 := by decide
 have h5 : IntKind.u32.wrap ((2 ^ r : Nat) : Int) = ((2 ^ r : Nat) : Int) := u32_wrap (by omega) (by omega)
 rw [h2, h5, hb, BitVec.toNat_or, BitVec.toNat_ofInt, BitVec.toNat_ofInt]
 have e1 : ((x : Int) % ((2 ^ 32 : Nat) : Int)).toNat = x := by omega
 have e2 : (((2 ^ r : Nat) : Int) % ((2 ^ 32 : Nat) : Int)).toNat = 2 ^ r := by
  have : ((2 ^ 32 : Nat) : Int) = 4294967296 := by decide
  rw [this]
  generalize 2 ^ r = p at *
  omega
 rw [e1, e2]
 have e3 : x ||| 2 ^ r = x + 2 ^ r := by
  have := Nat.two_pow_add_eq_or_of_lt hx 1
  rw [Nat.mul_one] at this
  rw [Nat.or_comm, <- this, Nat.add_comm]
 rw [e3]
 exact u32_wrap (by omega) (by omega)
def bitsN (m : Nat) : List Bool := if h : m = 0 then [] else decide (m % 2 = 1) :: bitsN (m / 2)
termination_by m
decreasing_by omega
theorem bitsN_zero : bitsN 0 = [] := by rw [bitsN]; simp
theorem bitsN_step {m : Nat} (h : m ≠ 0) : bitsN m = decide (m % 2 = 1) :: bitsN (m / 2) := by rw [bitsN, dif_neg h]
theorem bitsN_bv (m : Nat) : bv (bitsN m) = m := by
 induction m using Nat.strongRecOn with
 | _ m ih =>
  by_cases h : m = 0
  ·subst h; rw [bitsN_zero]; rfl
  ·rw [bitsN_step h, bv, ih (m / 2) (by omega)]
   by_cases e : m % 2 = 1
   ·simp [e]; omega
   ·simp [e]; omega
theorem bitsN_len : ∀ (k m : Nat), m < 2 ^ k -> (bitsN m).length <= k
 | 0, m, h => by
  have : m = 0 := by simp at h; omega
  subst this; rw [bitsN_zero]; simp
 | k + 1, m, h => by
  by_cases h0 : m = 0
  ·subst h0; rw [bitsN_zero]; simp
  ·rw [bitsN_step h0, List.length_cons]
   have := bitsN_len k (m / 2) (by rw [Nat.pow_succ] at h; omega)
   omega
theorem last_of {l : List UInt32} (h : l ≠ []) (hv : 4294967296 ^ (l.length - 1) <= val l) : lastOk l = true := by
 rcases List.eq_nil_or_concat l with e | ⟨q, x, e⟩
 ·exact absurd e h
 ·rw [List.concat_eq_append] at e
  subst e
  rw [val_append] at hv
  simp only [List.length_append, List.length_cons, List.length_nil, Nat.add_sub_cancel, Nat.zero_add, val, Nat.mul_zero, Nat.add_zero] at hv
  have hq := val_lt q
  have : x.toNat ≠ 0 := fun e => by rw [e] at hv; omega
  unfold lastOk
  simp
  simpa using this
theorem cut_top {l : List Bool} (h : cutB l ≠ []) : 2 ^ ((cutB l).length - 1) <= bv (cutB l) := by
 rcases cutN_top l l.length with h0 | h1
 ·exfalso; apply h; unfold cutB; rw [h0]; rfl
 ·have hlen : (cutB l).length = cutN l l.length := by unfold cutB; rw [List.length_take]; have := cutN_le l l.length; omega
  rw [<- at_cut, rep_bv] at h1
  rw [hlen]
  exact Nat.ge_two_pow_of_testBit h1
theorem wr_made {l : List Bool} (hl : (cutB l).length <= 1024) {g : Bool} (hg : g = true -> 0 < (cutB l).length) : wr (intT g (limbsB (cutB l))) = true := by
 have hlen := limbsB_len (cutB l)
 have hval := limbsB_val (cutB l)
 have key : (limbsB (cutB l)).length = 0 \/ (0 < (limbsB (cutB l)).length /\ lastOk (limbsB (cutB l)) = true) := by
  by_cases h0 : cutB l = []
  ·left; rw [hlen, h0]; rfl
  ·right
   have hp := List.length_pos_iff.2 h0
   have hk : 0 < (limbsB (cutB l)).length := by rw [hlen]; omega
   refine ⟨hk, last_of (List.length_pos_iff.1 hk) ?_⟩
   rw [hval, hlen, pow32]
   exact Nat.le_trans (Nat.pow_le_pow_right (by omega) (by omega)) (cut_top h0)
 unfold wr
 have k1 : (intT g (limbsB (cutB l))).knd = 1 := rfl
 have k2 : (intT g (limbsB (cutB l))).limbs = limbsB (cutB l) := rfl
 have k3 : (intT g (limbsB (cutB l))).neg = g := rfl
 have k4 : ((limbsB (cutB l)).length : Int) <= 32 := by omega
 have k5 : (intT g (limbsB (cutB l))).text = [] := rfl
 have k6 : (intT g (limbsB (cutB l))).num = 0 := rfl
 have k7 : (intT g (limbsB (cutB l))).items = [] := rfl
 have k8 : (intT g (limbsB (cutB l))).tail = [] := rfl
 rw [k1, k2, k3, k5, k6, k7, k8]
 rcases key with h | ⟨h1, h2⟩
 ·have : g = false := by
   cases g with
   | false => rfl
   | true => have := hg rfl; omega
  subst this
  simp [h]
 ·simp [k4, h1, h2]
end Go.Proofs.YtdhbdhopnpmboaaGreatDoor
