/- What may be written is lent to a function that only tells: it is read as told, and is as it was afterwards. -/
import Derived.Test.YtphnoaihojccbaaGreatDoorZ09
import Derived.Test.YtphnoaihojccbaaGreatDoorZ05
import Derived.Test.YtphnoaihojccbaaGreatDoorZ04
set_option linter.unusedVariables false
set_option linter.unusedSimpArgs false
set_option linter.defProp false
namespace Go.Av
open Go Go.RowKit
theorem VR.mono2 {K K' : Ctx} (hi : ∀ b o v, K.imm b o = some v → K'.imm b o = some v) (hr : ∀ b x, K.row b = some x → K'.row b = some x)
    (ht : ∀ b, b < K.base → b < K'.base ∧ K'.W.heap[b]? = K.W.heap[b]?) {a : AV} {v : Value} (k : VR K a v) : VR K' a v := by
  induction k with
  | undef v => exact .undef v
  | bool b => exact .bool b
  | int k n => exact .int k n
  | str s => exact .str s
  | nil => exact .nil
  | sl g xs sp sz b off cap f hsz hcap hml himm hv hg ih =>
    refine .sl g xs sp sz b off cap f hsz hcap hml (fun j hj => hi _ _ _ (himm j hj)) ih ?_
    cases g with
    | none => exact hg
    | full => exact hg
    | own b' => obtain ⟨h1, h2, E, s, h3⟩ := hg; exact ⟨h1, h2, E, s, hr _ _ h3⟩
  | sl0 a => exact .sl0 a
  | agg cs vs hl h1 hv ih => exact .agg cs vs hl h1 ih
  | tup cs vs hl hv ih => exact .tup cs vs hl ih
  | ptr b o => exact .ptr b o
  | rp cs b off f h1 himm hv ih => exact .rp cs b off f h1 (fun j hj => hi _ _ _ (himm j hj)) ih
  | nilptr => exact .nilptr
  | fn f caps vs hl hv ih => exact .fn f caps vs hl ih
  | nilfn => exact .nilfn
  | bs b n s cap E hr' hn hm => exact .bs b n s cap E (hr _ _ hr') hn hm
  | bp b s cap E hr' => exact .bp b s cap E (hr _ _ hr')
  | raw v => exact .raw v
  | tab vs b E fz hb hw => exact .tab vs b E fz (ht b hb).1 (by rw [(ht b hb).2]; exact hw)
def Ctx.lent (K : Ctx) (σ : AS) (w : World) : Ctx :=
  { imm := fun b o => match σ.box b with | some cs => if o < cs.length then w.cell? ⟨b, o, none⟩ else K.imm b o | none => K.imm b o, row := K.row, base := w.heap.size, W := w }
def AS.shut (σ : AS) : AS := { box := fun _ => none, tip := fun _ => none, ty := σ.ty }
section
variable {G : Nat → AV} {K : Ctx} {σ : AS} {w : World}
theorem lent_imm (h : Rel G K σ w) : ∀ b o v, K.imm b o = some v → (K.lent σ w).imm b o = some v := by
  intro b o v hv
  unfold Ctx.lent
  simp only
  cases e : σ.box b with
  | none => exact hv
  | some cs =>
    obtain ⟨_, _, _, h4, _⟩ := h.box b cs e
    rw [h4 o] at hv; cases hv
theorem VR.lent (h : Rel G K σ w) {a : AV} {v : Value} (k : VR K a v) : VR (K.lent σ w) a v :=
  VR.mono2 (lent_imm h) (fun b x hx => hx) (fun b hb => ⟨Nat.lt_of_lt_of_le hb h.bs, h.below.block b hb⟩) k
theorem Rel.lent (h : Rel G K σ w) : Rel G (K.lent σ w) σ.shut w := by
  refine ⟨fun b o v hv => ?_, fun b cap s E hr => ?_, fun b cs hb => (by cases hb), fun b n s ht => (by cases ht), h.ty, fun g => (h.glob g).lent h, Below.refl _ _, Nat.le_refl _⟩
  · unfold Ctx.lent at hv
    simp only at hv
    cases e : σ.box b with
    | none => rw [e] at hv; exact h.imm b o v hv
    | some cs =>
      rw [e] at hv
      simp only at hv
      split at hv
      · exact hv
      · exact h.imm b o v hv
  · obtain ⟨cur, fz, h1, h2, h3, _⟩ := h.row b cap s E hr
    exact ⟨cur, fz, h1, h2, h3, fun ⟨x, hx⟩ => by cases hx⟩
end
def Lend (G : Nat → AV) (σ : AS) (a a' : AV) : Prop := ∀ K w u, Rel G K σ w → VR K a u → VR (K.lent σ w) a' u
inductive Lends (G : Nat → AV) (σ : AS) : List AV → List AV → Prop
  | nil : Lends G σ [] []
  | cons {a a' : AV} {l l' : List AV} (h : Lend G σ a a') (t : Lends G σ l l') : Lends G σ (a :: l) (a' :: l')
theorem Lend.id {G : Nat → AV} {σ : AS} (a : AV) : Lend G σ a a := fun K w u hr h => h.lent hr
theorem Lend.le {G : Nat → AV} {σ : AS} {a b c : AV} (h : Lend G σ a b) (k : Le b c) : Lend G σ a c := fun K w u hr hv => k _ _ (h K w u hr hv)
theorem Lends.ids {G : Nat → AV} {σ : AS} : ∀ l : List AV, Lends G σ l l
  | [] => .nil
  | a :: l => .cons (.id a) (Lends.ids l)
theorem Lends.length {G : Nat → AV} {σ : AS} {l l' : List AV} (h : Lends G σ l l') : l.length = l'.length := by
  induction h with
  | nil => rfl
  | cons _ _ ih => simp [ih]
theorem Lends.at_ {G : Nat → AV} {σ : AS} {l l' : List AV} (h : Lends G σ l l') : ∀ j (h1 : j < l.length) (h2 : j < l'.length), Lend G σ l[j] l'[j] := by
  induction h with
  | nil => intro j h1; cases h1
  | cons h _ ih =>
    intro j h1 h2
    cases j with
    | zero => exact h
    | succ j => exact ih j (by simpa using h1) (by simpa using h2)
theorem Lends.vrl {G : Nat → AV} {σ : AS} {l l' : List AV} (h : Lends G σ l l') {K : Ctx} {w : World} (hr : Rel G K σ w) : ∀ {vs : List Value}, VRl K l vs → VRl (K.lent σ w) l' vs := by
  induction h with
  | nil =>
    intro vs hv
    match vs, hv with
    | [], _ => exact trivial
  | cons h _ ih =>
    intro vs hv
    match vs, hv with
    | v :: vs, ⟨h1, h2⟩ => exact ⟨h K w v hr h1, ih h2⟩
theorem Lend.row {G : Nat → AV} {σ : AS} {b s : Nat} {E : TypeId} {cs ds : List AV} (hb : σ.box b = some cs) (hl : Lends G σ (cs.take ds.length) ds) (hd : ds.length ≤ cs.length) {xs sp : List AV} (hx : (xs ++ sp).flatMap flat = ds) (hs0 : 0 < s)
    (hsz : ∀ e, e ∈ xs ++ sp → (flat e).length = s ∧ isv e = true ∧ ∀ c, c ∈ flat e → one c = true) : Lend G σ (.bs b xs.length s E) (.sl .none xs sp) := by
  intro K w u hr hv
  obtain ⟨g1, g2, g3, g4, g5, c, F, hc, hs, hvv⟩ := hr.box b cs hb
  generalize hn : xs.length = n at hv
  cases hv with
  | bs _ _ _ cap _ hrow hn' hm =>
    obtain ⟨cur, fz, h1, h2, h3, _⟩ := hr.row b cap s E hrow
    rw [hc] at h1
    simp only [Option.some.injEq, Obj.cells.injEq] at h1
    obtain ⟨rfl, _, _⟩ := h1
    have hlen : ds.length = (xs.length + sp.length) * s := by
      rw [← hx]
      have : ∀ l : List AV, (∀ e, e ∈ l → (flat e).length = s) → (l.flatMap flat).length = l.length * s := by
        intro l
        induction l with
        | nil => intro _; simp
        | cons x l ih =>
          intro h
          rw [List.flatMap_cons, List.length_append, h x (by simp), ih (fun e he => h e (by simp [he])), List.length_cons, Nat.add_mul, Nat.one_mul, Nat.add_comm]
      rw [this _ (fun e he => (hsz e he).1), List.length_append]
    have hcap : xs.length + sp.length ≤ cap := by
      have : (xs.length + sp.length) * s ≤ cap * s := by omega
      exact Nat.le_of_mul_le_mul_right this hs0
    have hval := VR.sl (K := K.lent σ w) .none xs sp s b 0 cap (fun j => c.getD j Go.undef) hsz hcap hm
      (fun j hj => by
        rw [hx] at hj
        rw [Nat.zero_add]
        unfold Ctx.lent
        simp only [hb]
        rw [if_pos (by omega), cell_of_row w b j c F (0, 0) hc]
        have : j < c.size := by omega
        simp [this])
      (fun j hj => by
        have hj' : j < ds.length := by rw [← hx]; exact hj
        have e : ((xs ++ sp).flatMap flat)[j] = ds[j] := by simp only [hx]
        rw [e]
        have h4 := hl.at_ j (by rw [List.length_take]; omega) hj'
        have h5 : (cs.take ds.length)[j]'(by rw [List.length_take]; omega) = cs[j]'(by omega) := List.getElem_take
        rw [h5] at h4
        exact h4 K w _ hr (hvv j (by omega)))
      trivial
    rw [hn] at hval
    exact hval
theorem Lend.agg {G : Nat → AV} {σ : AS} {l l' : List AV} (h : Lends G σ l l') (h1 : ∀ c, c ∈ l' → one c = true) : Lend G σ (.agg l) (.agg l') := by
  intro K w u hr hv
  cases hv with
  | agg _ vs hl _ hv =>
    have hlen := h.length
    exact .agg l' vs (by omega) h1 (fun j hj => h.at_ j (by omega) hj K w _ hr (hv j (by omega)))
def plainV : AV → Bool
  | .bool _ => true
  | .int _ _ => true
  | .str _ => true
  | .tup l => l.all fun a => match a with | .bool _ => true | .int _ _ => true | .str _ => true | _ => false
  | _ => false
theorem plainV_vr {a : AV} (h : plainV a = true) {K K' : Ctx} {v : Value} (k : VR K a v) : VR K' a v := by
  cases k with
  | bool b => exact .bool b
  | int k n => exact .int k n
  | str s => exact .str s
  | tup cs vs hl hv =>
    refine .tup cs vs hl fun j hj => ?_
    have h1 := hv j hj
    have h2 : (match cs[j] with | .bool _ => true | .int _ _ => true | .str _ => true | _ => false) = true := by
      have := List.all_eq_true.1 h cs[j] (List.getElem_mem hj)
      exact this
    generalize cs[j] = a at *
    generalize vs.getD j Go.undef = u at *
    cases h1 with
    | bool b => exact .bool b
    | int k n => exact .int k n
    | str s => exact .str s
    | _ => cases h2
  | _ => cases h
theorem Pure.lend {P : Program} {G : Nat → AV} {f : FuncId} {args args' : List AV} {v : AV} (h : Pure P G f args' v) (hv : plainV v = true) {σ : AS} (hl : Lends G σ args args') : Tri P G f args σ fun r s => r = v ∧ s = σ := by
  refine ⟨(h σ).1, fun K w vals hr hvl => ?_⟩
  refine ((h σ.shut).2 (K.lent σ w) w vals hr.lent (hl.vrl hr hvl)).mono ?_
  rintro e w' ⟨u, r, s, K', he, ⟨hr1, hs1⟩, h1, h2, h3⟩
  subst hr1
  have hb : Below w.heap.size w w' := by
    have := h2.below
    rw [h3.base, h3.W] at this
    exact this
  exact ⟨u, r, σ, K, he, ⟨rfl, rfl⟩, plainV_vr hv h1, hr.grown hb, Ctx.le.refl K⟩
section
variable {G : Nat → AV} {K K' : Ctx} {σ s : AS} {w w' : World}
end
theorem app_any {P : Program} {n by_ : Nat} {σ0 σ : AS} {x : AV} {xs ys : List AV} {t tx e : TypeId} {K : AV → AS → Prop} {d : Dum σ} {d' : Dum K} (hle : σ0.le σ) (hxs : ∀ a, a ∈ xs → (Av.flat a).length = n) (he : aelt P t = some (e, n, by_)) (hs : asrc P tx x = some ys)
    (hys : ∀ a, a ∈ ys → (Av.flat a).length = n) (hb : (xs.length + ys.length) * by_ ≤ 140737488355328) (hK : ∀ v' σ', σ0.le σ' → σ'.box = σ.box → Le v' (.sl .none (xs ++ ys) []) → one v' = true → K v' σ') : appW P σ t tx (.sl .full xs []) x K d d' :=
  app_full hle hxs he hs hys hb (fun h => hK _ _ hle rfl (by subst h; rw [List.append_nil]; exact Le.gh) rfl) (fun v' σ' hB hx => hK _ _ hB.le hx hB.told (by generalize xs ++ ys = z at hB; cases hB <;> rfl))
theorem make_row {P : Program} {n by_ : Nat} {σ : AS} {t e : TypeId} {k k' : IntKind} {zz : List AV} (l : Nat) {K : AV → AS → Prop} {d : Dum σ} {d' : Dum K} (he : aelt P t = some (e, n, by_)) (hz : (el P t).bind (zc P) = some zz) (hb : l * by_ ≤ 140737488355328)
    (hK : ∀ b, σ.fresh b → K (.bs b l n e) (σ.setBox b (List.replicate l zz).flatten)) : makeW P σ t (.int k l) (.int k' l) K d d' := by
  refine .inr ?_
  unfold amakeM
  rw [he, hz]
  refine ⟨by omega, by omega, by rw [← Int.natCast_mul]; omega, fun b hf => ?_⟩
  exact hK b hf
theorem freeze_use {P : Program} {G : Nat → AV} {f : FuncId} {σ : AS} {b n s : Nat} {E : TypeId} {xs cs : List AV} {v : AV} {K : AV → AS → Prop} {d : Dum σ} {d' : Dum K} (hb : σ.box b = some cs) (hi : Items n s xs cs) (h : Pure P G f [.sl (.own b) xs []] v) (hk : K v (σ.froze b n s)) : triW P G f [.bs b n s E] σ K d d' :=
  Tri.freeze b n s xs cs hb hi ⟨.bs b n s E, by simp, Has.bs⟩ (.cons (.here E) .nil) ((h _).mono fun r s ⟨h1, h2⟩ => by subst h1 h2; exact hk)
theorem Tri.shrink {P : Program} {G : Nat → AV} {f : FuncId} {args : List AV} {σ : AS} {Q Q' : AV → AS → Prop} (h : Tri P G f args σ Q) (hq : ∀ r s, Q r s → ∃ s', s'.le s ∧ Q' r s') : Tri P G f args σ Q' :=
  ⟨h.1, fun K w vals hr hv => (h.2 K w vals hr hv).mono (by rintro e w' ⟨u, r, s, K', he, hQ, h1, h2, h3⟩; obtain ⟨s', hl, hQ'⟩ := hq r s hQ; exact ⟨u, r, s', K', he, hQ', h1, h2.weaken hl, h3⟩)⟩
def MadeRow (n s : Nat) (E : TypeId) (cs : List AV) (σ : AS) (r : AV) (σ' : AS) : Prop := ∃ b, r = .bs b n s E ∧ σ'.box b = some cs ∧ σ.le σ' ∧ σ.box b = none ∧ σ.tip b = none
def Mk.row (n s : Nat) (E : TypeId) (cs : List AV) : Mk := ⟨fun b => .bs b n s E, cs⟩
def Mk.var (z : List AV) : Mk := ⟨fun b => .ptr b 0, z⟩
theorem AS.set_le {σ σ' : AS} (h : σ.le σ') {b : Nat} {cs : List AV} (hb : σ'.box b = some cs) : (σ.setBox b cs).le σ' := by
  refine ⟨fun i c hi => ?_, fun i n hi => h.tip _ _ hi, fun i n hi => h.ty _ _ hi⟩
  have hi' : (if i = b then some cs else σ.box i) = some c := hi
  by_cases e : i = b
  · subst e
    rw [if_pos rfl] at hi'
    rw [hb]; exact hi'
  · rw [if_neg e] at hi'
    exact h.box _ _ hi'
theorem Tri.madeRow {P : Program} {G : Nat → AV} {f : FuncId} {args : List AV} {σ : AS} {n s : Nat} {E : TypeId} {cs : List AV} (h : Tri P G f args σ fun r σ' => MadeRow n s E cs σ r σ') : Tri P G f args σ ((Mk.row n s E cs).out σ) :=
  h.shrink fun r s ⟨b, e, hb, hl, h0, h1⟩ => ⟨σ.setBox b cs, AS.set_le hl hb, b, ⟨h0, h1⟩, e, rfl⟩
end Go.Av
set_option maxRecDepth 20000
namespace Go.Proofs.YtphnoaihojccbaaGreatDoor
open Go Go.Av
def tbRefZ := And.intro (And.intro (And.intro (And.intro (And.intro @tf3 @tf4) (And.intro @tf5 (And.intro @tf85 @tf9))) (And.intro (And.intro @tf40 @tf39) (And.intro @tf22 (And.intro @tf42 @tf23)))) (And.intro (And.intro (And.intro @tf44 @tf24) (And.intro @tf46 (And.intro @tf26 @Term.flat_enc))) (And.intro (And.intro @Term.isv_enc (And.intro @Term.fold_enc @isv_encs)) (And.intro @flat_encs (And.intro @len_encs @ix_encs))))) (And.intro (And.intro (And.intro (And.intro @isv_lims @flat_lims) (And.intro @len_lims (And.intro @ix_lims @flat_limA))) (And.intro (And.intro @Ended.flat_enc (And.intro @Ended.isv_enc @Ended.fold_enc)) (And.intro @Named.flat_enc (And.intro @Named.isv_enc @Named.fold_enc)))) (And.intro (And.intro (And.intro @Seen.flat_enc @Seen.isv_enc) (And.intro @Seen.fold_enc (And.intro @isv_encE @flat_encE))) (And.intro (And.intro @len_encE (And.intro @ix_encE @isv_encN)) (And.intro @flat_encN (And.intro @len_encN @ix_encN)))))
variable (G : Nat → AV)
theorem same_no {t u : Term} (h : ¬ t = u) : same t u = false := by rw [Bool.eq_false_iff]; exact fun e => h ((same_iff t u).1 e)
theorem pre_at {α : Type} {l r : List α} (h : l <+: r) {i : Nat} {x : α} (hx : l[i]? = some x) : r[i]? = some x := by
  obtain ⟨s, rfl⟩ := h
  rw [List.getElem?_append_left (List.getElem?_eq_some_iff.1 hx).1]; exact hx
theorem pre_all {α : Type} {l r : List α} (h : l.take l.length = r.take l.length) : l <+: r := by
  rw [List.take_length] at h; rw [List.prefix_iff_eq_take]; exact h
theorem same_rest {t u : Term} (h1 : t.knd = u.knd) (h2 : t.neg = u.neg) (h3 : t.text = u.text) (h4 : t.num = u.num) (h5 : t.limbs = u.limbs) : same t u = (sames t.items u.items && sames t.tail u.tail) := by
  rw [same_eq, h1, h2, h3, h4, h5]; simp
theorem pre_len {l r : List Term} (h : (l.length : Int) = r.length) : pre l r = sames l r := by
  unfold pre
  have : l.length = r.length := by omega
  rw [this, List.take_length]; simp
set_option maxHeartbeats 1000000 in
theorem rbegins_pure (l r : List Term) (hl : l.length ≤ 1000000000) (hr : r.length ≤ 1000000000) (hf : ∀ x, x ∈ l → ∀ y, y ∈ r → Pure Tryz.prog G 58 [x.enc, y.enc] (.bool (same x y))) :
    Pure Tryz.prog G 33 [encs l, encs r] (.bool (pre l r)) := by
  intro σ
  by_cases hn : (l.length : Int) ≤ r.length
  · have hn' := eq_false (show ¬ (r.length : Int) < l.length by omega)
    refine Tri.of_awp mixed Tryz.func33 rfl (by kernel_rfl) (by kernel_rfl) (by simp [Tryz.ntmps33]) Tryz.results33 ?_
    simp -dsimp only [↓bp, bq, br, seval, tbRefZ, hn']
    refine loop_keep mixed (fun n e => ∃ i : Nat, i ≤ (l).length ∧ n = (l).length - i ∧ e 5 = .int .i64 i ∧ l.take i = r.take i) (l).length
        ⟨0, by omega, by omega, by simp -dsimp only [↓bp, bq, br, seval, tbRefZ]; first | done | rfl, rfl⟩ ?_
    rintro n v ⟨i, hi, rfl, h5, htk⟩
    simp -dsimp only [↓bp, bq, br, seval, tbRefZ] at h5
    simp -dsimp only [↓bp, bq, br, seval, tbRefZ, h5]
    refine condW_dec (fun hlt => ?_) (fun hge => ?_)
    · obtain ⟨x, hx⟩ : ∃ x, l[i]? = some x := ⟨_, List.getElem?_eq_getElem (by omega)⟩
      obtain ⟨y, hy⟩ : ∃ y, r[i]? = some y := ⟨_, List.getElem?_eq_getElem (by omega)⟩
      have hw : IntKind.i64.wrap ((i : Int) + 1) = ((i + 1 : Nat) : Int) := by rw [wrap_nat (by omega) (by omega)]; rfl
      have hp := hf x (List.mem_of_getElem? hx) y (List.mem_of_getElem? hy)
      by_cases hxy : x = y
      · subst hxy
        have h2 := take_same htk hx hy
        rw [(same_iff x x).2 rfl] at hp
        clear hi hn hl hr hf htk
        repeat' (first | refine xs ?_ ?_ <;> intros | ((first | refine xh ?_ | refine xi ?_); intro bx hbx; (try simp only [fb] at hbx)) | refine Pure.use (hp) ?_ | refine Pure.head (hp) ?_ | refine xj ?_ | ((with_reducible refine And.intro ?_ ?_); omega) | refine bo_buildSlice (d' := ⟨⟩) ?_ | refine xk (by kernel_rfl) ?_ | refine xf ?_ (by repeat' first | exact lr _ | assumption | refine ls ?_ ?_ | refine lt ?_ ?_ | simp only [*]; done | exact lf ‹_› (by simp only [*])) | simp -dsimp only [↓bp, bq, br, seval, tbRefZ, *])
        all_goals (have hlt := (List.getElem?_eq_some_iff.1 hx).1)
        all_goals exact ⟨l.length - (i + 1), by omega, i + 1, by omega, rfl, rfl, h2⟩
      · have hd : pre l r = false := by
          rw [Bool.eq_false_iff]
          intro e
          have := pre_at ((pre_iff l r).1 e) hx
          rw [hy] at this
          injection this with this
          exact hxy this.symm
        rw [same_no hxy] at hp
        rw [hd]
        clear hi hn hl hr hd hxy hf htk
        repeat' (first | refine xs ?_ ?_ <;> intros | ((first | refine xh ?_ | refine xi ?_); intro bx hbx; (try simp only [fb] at hbx)) | refine Pure.use (hp) ?_ | refine Pure.head (hp) ?_ | refine xj ?_ | ((with_reducible refine And.intro ?_ ?_); omega) | refine bo_buildSlice (d' := ⟨⟩) ?_ | refine xk (by kernel_rfl) ?_ | refine xf ?_ (by repeat' first | exact lr _ | assumption | refine ls ?_ ?_ | refine lt ?_ ?_ | simp only [*]; done | exact lf ‹_› (by simp only [*])) | simp -dsimp only [↓bp, bq, br, seval, tbRefZ, *])
        all_goals rfl
    · have : i = l.length := by omega
      subst this
      rw [(pre_iff l r).2 (pre_all htk)]
      clear hi hn hl hr hf htk
      repeat' (first | refine xs ?_ ?_ <;> intros | ((first | refine xh ?_ | refine xi ?_); intro bx hbx; (try simp only [fb] at hbx)) | refine xj ?_ | ((with_reducible refine And.intro ?_ ?_); omega) | refine bo_buildSlice (d' := ⟨⟩) ?_ | refine xk (by kernel_rfl) ?_ | refine xf ?_ (by repeat' first | exact lr _ | assumption | refine ls ?_ ?_ | refine lt ?_ ?_ | simp only [*]; done | exact lf ‹_› (by simp only [*])) | simp -dsimp only [↓bp, bq, br, seval, tbRefZ, *])
      all_goals rfl
  · have hd : pre l r = false := by unfold pre; rw [decide_eq_false hn, Bool.false_and]
    have hn' := eq_true (show (r.length : Int) < l.length by omega)
    rw [hd]
    clear hn hl hr hd hf
    refine Tri.of_awp mixed Tryz.func33 rfl (by kernel_rfl) (by kernel_rfl) (by simp [Tryz.ntmps33]) Tryz.results33 ?_
    repeat' (first | refine xs ?_ ?_ <;> intros | ((first | refine xh ?_ | refine xi ?_); intro bx hbx; (try simp only [fb] at hbx)) | refine xj ?_ | ((with_reducible refine And.intro ?_ ?_); omega) | refine bo_buildSlice (d' := ⟨⟩) ?_ | refine xk (by kernel_rfl) ?_ | refine xf ?_ (by repeat' first | exact lr _ | assumption | refine ls ?_ ?_ | refine lt ?_ ?_ | simp only [*]; done | exact lf ‹_› (by simp only [*])) | simp -dsimp only [↓bp, bq, br, seval, tbRefZ, *])
    all_goals rfl
theorem tf_ne : (true == false) = false := rfl
theorem ft_ne : (false == true) = false := rfl
theorem ralike_n1 (t u : Term) (c1 : (t.knd = u.knd) = False) : Pure Tryz.prog G 58 [t.enc, u.enc] (.bool (same t u)) := by
  rw [same_no (fun e => by subst e; simp at c1)]
  intro σ
  refine Tri.of_awp mixed Tryz.func58 rfl (by kernel_rfl) (by kernel_rfl) (by simp [Tryz.ntmps58]) Tryz.results58 ?_
  repeat' (first | refine xs ?_ ?_ <;> intros | ((first | refine xh ?_ | refine xi ?_); intro bx hbx; (try simp only [fb] at hbx)) | refine xj ?_ | ((with_reducible refine And.intro ?_ ?_); omega) | refine bo_buildSlice (d' := ⟨⟩) ?_ | refine xk (by kernel_rfl) ?_ | refine xf ?_ (by repeat' first | exact lr _ | assumption | refine ls ?_ ?_ | refine lt ?_ ?_ | simp only [*]; done | exact lf ‹_› (by simp only [*])) | simp -dsimp only [↓bp, bq, br, seval, tbRefZ, tf_ne, ft_ne, *])
  all_goals rfl
theorem ralike_n2t (t u : Term) (c1 : (t.knd = u.knd) = True) (g1 : t.neg = true) (g2 : u.neg = false) : Pure Tryz.prog G 58 [t.enc, u.enc] (.bool (same t u)) := by
  rw [same_no (fun e => by subst e; rw [g1] at g2; cases g2)]
  intro σ
  refine Tri.of_awp mixed Tryz.func58 rfl (by kernel_rfl) (by kernel_rfl) (by simp [Tryz.ntmps58]) Tryz.results58 ?_
  repeat' (first | refine xs ?_ ?_ <;> intros | ((first | refine xh ?_ | refine xi ?_); intro bx hbx; (try simp only [fb] at hbx)) | refine xj ?_ | ((with_reducible refine And.intro ?_ ?_); omega) | refine bo_buildSlice (d' := ⟨⟩) ?_ | refine xk (by kernel_rfl) ?_ | refine xf ?_ (by repeat' first | exact lr _ | assumption | refine ls ?_ ?_ | refine lt ?_ ?_ | simp only [*]; done | exact lf ‹_› (by simp only [*])) | simp -dsimp only [↓bp, bq, br, seval, tbRefZ, tf_ne, ft_ne, *])
  all_goals rfl
theorem ralike_n2f (t u : Term) (c1 : (t.knd = u.knd) = True) (g1 : t.neg = false) (g2 : u.neg = true) : Pure Tryz.prog G 58 [t.enc, u.enc] (.bool (same t u)) := by
  rw [same_no (fun e => by subst e; rw [g1] at g2; cases g2)]
  intro σ
  refine Tri.of_awp mixed Tryz.func58 rfl (by kernel_rfl) (by kernel_rfl) (by simp [Tryz.ntmps58]) Tryz.results58 ?_
  repeat' (first | refine xs ?_ ?_ <;> intros | ((first | refine xh ?_ | refine xi ?_); intro bx hbx; (try simp only [fb] at hbx)) | refine xj ?_ | ((with_reducible refine And.intro ?_ ?_); omega) | refine bo_buildSlice (d' := ⟨⟩) ?_ | refine xk (by kernel_rfl) ?_ | refine xf ?_ (by repeat' first | exact lr _ | assumption | refine ls ?_ ?_ | refine lt ?_ ?_ | simp only [*]; done | exact lf ‹_› (by simp only [*])) | simp -dsimp only [↓bp, bq, br, seval, tbRefZ, tf_ne, ft_ne, *])
  all_goals rfl
theorem ralike_n3t (t u : Term) (c1 : (t.knd = u.knd) = True) (g1 : t.neg = true) (g2 : u.neg = true) (c3 : (t.text = u.text) = False) : Pure Tryz.prog G 58 [t.enc, u.enc] (.bool (same t u)) := by
  rw [same_no (fun e => by subst e; simp at c3)]
  intro σ
  refine Tri.of_awp mixed Tryz.func58 rfl (by kernel_rfl) (by kernel_rfl) (by simp [Tryz.ntmps58]) Tryz.results58 ?_
  repeat' (first | refine xs ?_ ?_ <;> intros | ((first | refine xh ?_ | refine xi ?_); intro bx hbx; (try simp only [fb] at hbx)) | refine xj ?_ | ((with_reducible refine And.intro ?_ ?_); omega) | refine bo_buildSlice (d' := ⟨⟩) ?_ | refine xk (by kernel_rfl) ?_ | refine xf ?_ (by repeat' first | exact lr _ | assumption | refine ls ?_ ?_ | refine lt ?_ ?_ | simp only [*]; done | exact lf ‹_› (by simp only [*])) | simp -dsimp only [↓bp, bq, br, seval, tbRefZ, tf_ne, ft_ne, *])
  all_goals rfl
theorem ralike_n4t (t u : Term) (c1 : (t.knd = u.knd) = True) (g1 : t.neg = true) (g2 : u.neg = true) (c3 : (t.text = u.text) = True) (c4 : (t.num = u.num) = False) : Pure Tryz.prog G 58 [t.enc, u.enc] (.bool (same t u)) := by
  rw [same_no (fun e => by subst e; simp at c4)]
  intro σ
  refine Tri.of_awp mixed Tryz.func58 rfl (by kernel_rfl) (by kernel_rfl) (by simp [Tryz.ntmps58]) Tryz.results58 ?_
  repeat' (first | refine xs ?_ ?_ <;> intros | ((first | refine xh ?_ | refine xi ?_); intro bx hbx; (try simp only [fb] at hbx)) | refine xj ?_ | ((with_reducible refine And.intro ?_ ?_); omega) | refine bo_buildSlice (d' := ⟨⟩) ?_ | refine xk (by kernel_rfl) ?_ | refine xf ?_ (by repeat' first | exact lr _ | assumption | refine ls ?_ ?_ | refine lt ?_ ?_ | simp only [*]; done | exact lf ‹_› (by simp only [*])) | simp -dsimp only [↓bp, bq, br, seval, tbRefZ, tf_ne, ft_ne, *])
  all_goals rfl
theorem ralike_n5t (t u : Term) (c1 : (t.knd = u.knd) = True) (g1 : t.neg = true) (g2 : u.neg = true) (c3 : (t.text = u.text) = True) (c4 : (t.num = u.num) = True) (c5 : ((t.limbs.length : Int) = u.limbs.length) = False) : Pure Tryz.prog G 58 [t.enc, u.enc] (.bool (same t u)) := by
  rw [same_no (fun e => by subst e; simp at c5)]
  intro σ
  refine Tri.of_awp mixed Tryz.func58 rfl (by kernel_rfl) (by kernel_rfl) (by simp [Tryz.ntmps58]) Tryz.results58 ?_
  repeat' (first | refine xs ?_ ?_ <;> intros | ((first | refine xh ?_ | refine xi ?_); intro bx hbx; (try simp only [fb] at hbx)) | refine xj ?_ | ((with_reducible refine And.intro ?_ ?_); omega) | refine bo_buildSlice (d' := ⟨⟩) ?_ | refine xk (by kernel_rfl) ?_ | refine xf ?_ (by repeat' first | exact lr _ | assumption | refine ls ?_ ?_ | refine lt ?_ ?_ | simp only [*]; done | exact lf ‹_› (by simp only [*])) | simp -dsimp only [↓bp, bq, br, seval, tbRefZ, tf_ne, ft_ne, *])
  all_goals rfl
theorem ralike_n3f (t u : Term) (c1 : (t.knd = u.knd) = True) (g1 : t.neg = false) (g2 : u.neg = false) (c3 : (t.text = u.text) = False) : Pure Tryz.prog G 58 [t.enc, u.enc] (.bool (same t u)) := by
  rw [same_no (fun e => by subst e; simp at c3)]
  intro σ
  refine Tri.of_awp mixed Tryz.func58 rfl (by kernel_rfl) (by kernel_rfl) (by simp [Tryz.ntmps58]) Tryz.results58 ?_
  repeat' (first | refine xs ?_ ?_ <;> intros | ((first | refine xh ?_ | refine xi ?_); intro bx hbx; (try simp only [fb] at hbx)) | refine xj ?_ | ((with_reducible refine And.intro ?_ ?_); omega) | refine bo_buildSlice (d' := ⟨⟩) ?_ | refine xk (by kernel_rfl) ?_ | refine xf ?_ (by repeat' first | exact lr _ | assumption | refine ls ?_ ?_ | refine lt ?_ ?_ | simp only [*]; done | exact lf ‹_› (by simp only [*])) | simp -dsimp only [↓bp, bq, br, seval, tbRefZ, tf_ne, ft_ne, *])
  all_goals rfl
theorem ralike_n4f (t u : Term) (c1 : (t.knd = u.knd) = True) (g1 : t.neg = false) (g2 : u.neg = false) (c3 : (t.text = u.text) = True) (c4 : (t.num = u.num) = False) : Pure Tryz.prog G 58 [t.enc, u.enc] (.bool (same t u)) := by
  rw [same_no (fun e => by subst e; simp at c4)]
  intro σ
  refine Tri.of_awp mixed Tryz.func58 rfl (by kernel_rfl) (by kernel_rfl) (by simp [Tryz.ntmps58]) Tryz.results58 ?_
  repeat' (first | refine xs ?_ ?_ <;> intros | ((first | refine xh ?_ | refine xi ?_); intro bx hbx; (try simp only [fb] at hbx)) | refine xj ?_ | ((with_reducible refine And.intro ?_ ?_); omega) | refine bo_buildSlice (d' := ⟨⟩) ?_ | refine xk (by kernel_rfl) ?_ | refine xf ?_ (by repeat' first | exact lr _ | assumption | refine ls ?_ ?_ | refine lt ?_ ?_ | simp only [*]; done | exact lf ‹_› (by simp only [*])) | simp -dsimp only [↓bp, bq, br, seval, tbRefZ, tf_ne, ft_ne, *])
  all_goals rfl
theorem ralike_n5f (t u : Term) (c1 : (t.knd = u.knd) = True) (g1 : t.neg = false) (g2 : u.neg = false) (c3 : (t.text = u.text) = True) (c4 : (t.num = u.num) = True) (c5 : ((t.limbs.length : Int) = u.limbs.length) = False) : Pure Tryz.prog G 58 [t.enc, u.enc] (.bool (same t u)) := by
  rw [same_no (fun e => by subst e; simp at c5)]
  intro σ
  refine Tri.of_awp mixed Tryz.func58 rfl (by kernel_rfl) (by kernel_rfl) (by simp [Tryz.ntmps58]) Tryz.results58 ?_
  repeat' (first | refine xs ?_ ?_ <;> intros | ((first | refine xh ?_ | refine xi ?_); intro bx hbx; (try simp only [fb] at hbx)) | refine xj ?_ | ((with_reducible refine And.intro ?_ ?_); omega) | refine bo_buildSlice (d' := ⟨⟩) ?_ | refine xk (by kernel_rfl) ?_ | refine xf ?_ (by repeat' first | exact lr _ | assumption | refine ls ?_ ?_ | refine lt ?_ ?_ | simp only [*]; done | exact lf ‹_› (by simp only [*])) | simp -dsimp only [↓bp, bq, br, seval, tbRefZ, tf_ne, ft_ne, *])
  all_goals rfl
set_option maxHeartbeats 2000000 in
theorem ralike_mt (t u : Term) (hl : t.limbs.length ≤ 1000000000) (hI : Pure Tryz.prog G 33 [encs t.items, encs u.items] (.bool (pre t.items u.items))) (hT : Pure Tryz.prog G 33 [encs t.tail, encs u.tail] (.bool (pre t.tail u.tail))) (c1 : (t.knd = u.knd) = True) (g1 : t.neg = true) (g2 : u.neg = true) (c3 : (t.text = u.text) = True) (c4 : (t.num = u.num) = True) (c5 : ((t.limbs.length : Int) = u.limbs.length) = True) : Pure Tryz.prog G 58 [t.enc, u.enc] (.bool (same t u)) := by
  have k1 := of_eq_true c1
  have k2 : t.neg = u.neg := by rw [g1, g2]
  have k3 := of_eq_true c3
  have k4 := of_eq_true c4
  have k5 := of_eq_true c5
  refine Pure.of_le fun σ => ?_
  have hno : ∀ (i : Nat) (x y : UInt32), t.limbs[i]? = some x → u.limbs[i]? = some y → x ≠ y → same t u = false := fun i x y hx hy h => same_no fun e => by
    rw [e, hy] at hx; injection hx with hx; exact h hx.symm
  have hyes : t.limbs = u.limbs → same t u = (sames t.items u.items && sames t.tail u.tail) := same_rest k1 k2 k3 k4
  have hi1 : (t.items.length : Int) ≠ u.items.length → same t u = false := fun h => same_no fun e => h (by rw [e])
  have ht1 : (t.tail.length : Int) ≠ u.tail.length → same t u = false := fun h => same_no fun e => h (by rw [e])
  have hul : u.limbs.length = t.limbs.length := by omega
  clear k1 k2 k3 k4
  refine Tri.of_awp mixed Tryz.func58 rfl (by kernel_rfl) (by kernel_rfl) (by simp [Tryz.ntmps58]) Tryz.results58 ?_
  simp -dsimp only [↓bp, bq, br, seval, tbRefZ]
  refine newW_intro fun b2 h2 => ?_
  simp -dsimp only [↓bp, bq, br, seval, tbRefZ]
  refine newW_intro fun b3 h3 => ?_
  obtain ⟨S, hS⟩ : ∃ S, S = (σ.setBox b2 [.int .u8 t.knd, .bool t.neg, lims t.limbs, .str t.text, .int .i64 t.num, encs t.items, encs t.tail]).setBox b3 [.int .u8 u.knd, .bool u.neg, lims u.limbs, .str u.text, .int .i64 u.num, encs u.items, encs u.tail] := ⟨_, rfl⟩
  have hn3 := (fresh_ne (σ := σ.setBox b2 [.int .u8 t.knd, .bool t.neg, lims t.limbs, .str t.text, .int .i64 t.num, encs t.items, encs t.tail]) (b := b2) (z := [.int .u8 t.knd, .bool t.neg, lims t.limbs, .str t.text, .int .i64 t.num, encs t.items, encs t.tail]) (by simp [AS.setBox]) h3).1
  have hS2 : S.box b2 = some [.int .u8 t.knd, .bool t.neg, lims t.limbs, .str t.text, .int .i64 t.num, encs t.items, encs t.tail] := by rw [hS]; simp [AS.setBox, hn3]
  have hS3 : S.box b3 = some [.int .u8 u.knd, .bool u.neg, lims u.limbs, .str u.text, .int .i64 u.num, encs u.items, encs u.tail] := by rw [hS]; simp [AS.setBox]
  have hle1 : σ.le (σ.setBox b2 [.int .u8 t.knd, .bool t.neg, lims t.limbs, .str t.text, .int .i64 t.num, encs t.items, encs t.tail]) := (AS.le.refl σ).setBox h2.1 _
  have hle : σ.le S := by rw [hS]; exact hle1.setBox (hle1.fresh h3).1 _
  rw [← hS]
  clear hS h2 h3 hn3 hle1
  repeat' (first | refine xs ?_ ?_ <;> intros | ((first | refine xh ?_ | refine xi ?_); intro bx hbx; (try simp only [fb] at hbx)) | refine xj ?_ | ((with_reducible refine And.intro ?_ ?_); omega) | refine bo_buildSlice (d' := ⟨⟩) ?_ | refine xk (by kernel_rfl) ?_ | refine xf ?_ (by repeat' first | exact lr _ | assumption | refine ls ?_ ?_ | refine lt ?_ ?_ | simp only [*]; done | exact lf ‹_› (by simp only [*])) | simp -dsimp only [↓bp, bq, br, seval, tbRefZ, *])
  refine loop_keep mixed (fun n e => ∃ i : Nat, i ≤ (t.limbs).length ∧ n = (t.limbs).length - i ∧ e 5 = .int .i64 i ∧ t.limbs.take i = u.limbs.take i) (t.limbs).length
      ⟨0, by omega, by omega, by simp -dsimp only [↓bp, bq, br, seval, tbRefZ]; first | done | rfl, rfl⟩ ?_
  rintro n v ⟨i, hi, rfl, h5, htk⟩
  simp -dsimp only [↓bp, bq, br, seval, tbRefZ] at h5
  simp -dsimp only [↓bp, bq, br, seval, tbRefZ, h5, hS2, hS3, hul]
  refine condW_dec (fun hlt => ?_) (fun hge => ?_)
  · obtain ⟨x, hx⟩ : ∃ x, t.limbs[i]? = some x := ⟨_, List.getElem?_eq_getElem (by omega)⟩
    obtain ⟨y, hy⟩ : ∃ y, u.limbs[i]? = some y := ⟨_, List.getElem?_eq_getElem (by omega)⟩
    have hw : IntKind.i64.wrap ((i : Int) + 1) = ((i + 1 : Nat) : Int) := by rw [wrap_nat (by omega) (by omega)]; rfl
    have hN := hno i x y hx hy
    by_cases hxy : x = y
    · subst hxy
      have h2 := take_same htk hx hy
      clear hi hl hI hT hno hyes hi1 ht1 hN htk c5 c1 c3 c4 g1 g2 hul
      repeat' (first | refine xs ?_ ?_ <;> intros | ((first | refine xh ?_ | refine xi ?_); intro bx hbx; (try simp only [fb] at hbx)) | refine xj ?_ | ((with_reducible refine And.intro ?_ ?_); omega) | refine bo_buildSlice (d' := ⟨⟩) ?_ | refine xk (by kernel_rfl) ?_ | refine xf ?_ (by repeat' first | exact lr _ | assumption | refine ls ?_ ?_ | refine lt ?_ ?_ | simp only [*]; done | exact lf ‹_› (by simp only [*])) | simp -dsimp only [↓bp, bq, br, seval, tbRefZ, limA, *])
      all_goals (have hlt := (List.getElem?_eq_some_iff.1 hx).1)
      all_goals exact ⟨t.limbs.length - (i + 1), by omega, i + 1, by omega, rfl, rfl, h2⟩
    · rw [hN hxy]
      have hne : ((x.toNat : Int) = y.toNat) = False := eq_false fun e => hxy (UInt32.toNat_inj.1 (by omega))
      clear hi hl hI hT hno hyes hi1 ht1 hN htk c5 c1 c3 c4 g1 g2 hul hxy
      repeat' (first | refine xs ?_ ?_ <;> intros | ((first | refine xh ?_ | refine xi ?_); intro bx hbx; (try simp only [fb] at hbx)) | refine xj ?_ | ((with_reducible refine And.intro ?_ ?_); omega) | refine bo_buildSlice (d' := ⟨⟩) ?_ | refine xk (by kernel_rfl) ?_ | refine xf ?_ (by repeat' first | exact lr _ | assumption | refine ls ?_ ?_ | refine lt ?_ ?_ | simp only [*]; done | exact lf ‹_› (by simp only [*])) | simp -dsimp only [↓bp, bq, br, seval, tbRefZ, limA, *])
      all_goals exact finish_le (Le.refl _) hle
  · have : i = t.limbs.length := by omega
    subst this
    rw [hyes (take_end (by omega) htk)] at *
    clear hi hl hno hyes htk c5 c1 c3 c4 g1 g2 hul k5
    by_cases e1 : (t.items.length : Int) = u.items.length
    · have f1 := eq_true e1
      by_cases e2 : (t.tail.length : Int) = u.tail.length
      · have f2 := eq_true e2
        rw [pre_len e1] at hI
        rw [pre_len e2] at hT
        clear e1 e2 hi1 ht1
        generalize sames t.items u.items = z1 at *
        generalize sames t.tail u.tail = z2 at *
        cases z1 <;> cases z2
        all_goals
          repeat' (first | refine xs ?_ ?_ <;> intros | ((first | refine xh ?_ | refine xi ?_); intro bx hbx; (try simp only [fb] at hbx)) | refine Pure.use (hI) ?_ | refine Pure.head (hI) ?_ | refine Pure.use (hT) ?_ | refine Pure.head (hT) ?_ | refine xj ?_ | ((with_reducible refine And.intro ?_ ?_); omega) | refine bo_buildSlice (d' := ⟨⟩) ?_ | refine xk (by kernel_rfl) ?_ | refine xf ?_ (by repeat' first | exact lr _ | assumption | refine ls ?_ ?_ | refine lt ?_ ?_ | simp only [*]; done | exact lf ‹_› (by simp only [*])) | simp -dsimp only [↓bp, bq, br, seval, tbRefZ, *])
          all_goals exact finish_le (Le.refl _) hle
      · have f2 := eq_false e2
        rw [ht1 e2]
        clear e1 e2 hi1 ht1 hI hT
        repeat' (first | refine xs ?_ ?_ <;> intros | ((first | refine xh ?_ | refine xi ?_); intro bx hbx; (try simp only [fb] at hbx)) | refine xj ?_ | ((with_reducible refine And.intro ?_ ?_); omega) | refine bo_buildSlice (d' := ⟨⟩) ?_ | refine xk (by kernel_rfl) ?_ | refine xf ?_ (by repeat' first | exact lr _ | assumption | refine ls ?_ ?_ | refine lt ?_ ?_ | simp only [*]; done | exact lf ‹_› (by simp only [*])) | simp -dsimp only [↓bp, bq, br, seval, tbRefZ, *])
        all_goals exact finish_le (Le.refl _) hle
    · have f1 := eq_false e1
      rw [hi1 e1]
      clear e1 hi1 ht1 hI hT
      repeat' (first | refine xs ?_ ?_ <;> intros | ((first | refine xh ?_ | refine xi ?_); intro bx hbx; (try simp only [fb] at hbx)) | refine xj ?_ | ((with_reducible refine And.intro ?_ ?_); omega) | refine bo_buildSlice (d' := ⟨⟩) ?_ | refine xk (by kernel_rfl) ?_ | refine xf ?_ (by repeat' first | exact lr _ | assumption | refine ls ?_ ?_ | refine lt ?_ ?_ | simp only [*]; done | exact lf ‹_› (by simp only [*])) | simp -dsimp only [↓bp, bq, br, seval, tbRefZ, *])
      all_goals exact finish_le (Le.refl _) hle
set_option maxHeartbeats 2000000 in
theorem ralike_mf (t u : Term) (hl : t.limbs.length ≤ 1000000000) (hI : Pure Tryz.prog G 33 [encs t.items, encs u.items] (.bool (pre t.items u.items))) (hT : Pure Tryz.prog G 33 [encs t.tail, encs u.tail] (.bool (pre t.tail u.tail))) (c1 : (t.knd = u.knd) = True) (g1 : t.neg = false) (g2 : u.neg = false) (c3 : (t.text = u.text) = True) (c4 : (t.num = u.num) = True) (c5 : ((t.limbs.length : Int) = u.limbs.length) = True) : Pure Tryz.prog G 58 [t.enc, u.enc] (.bool (same t u)) := by
  have k1 := of_eq_true c1
  have k2 : t.neg = u.neg := by rw [g1, g2]
  have k3 := of_eq_true c3
  have k4 := of_eq_true c4
  have k5 := of_eq_true c5
  refine Pure.of_le fun σ => ?_
  have hno : ∀ (i : Nat) (x y : UInt32), t.limbs[i]? = some x → u.limbs[i]? = some y → x ≠ y → same t u = false := fun i x y hx hy h => same_no fun e => by
    rw [e, hy] at hx; injection hx with hx; exact h hx.symm
  have hyes : t.limbs = u.limbs → same t u = (sames t.items u.items && sames t.tail u.tail) := same_rest k1 k2 k3 k4
  have hi1 : (t.items.length : Int) ≠ u.items.length → same t u = false := fun h => same_no fun e => h (by rw [e])
  have ht1 : (t.tail.length : Int) ≠ u.tail.length → same t u = false := fun h => same_no fun e => h (by rw [e])
  have hul : u.limbs.length = t.limbs.length := by omega
  clear k1 k2 k3 k4
  refine Tri.of_awp mixed Tryz.func58 rfl (by kernel_rfl) (by kernel_rfl) (by simp [Tryz.ntmps58]) Tryz.results58 ?_
  simp -dsimp only [↓bp, bq, br, seval, tbRefZ]
  refine newW_intro fun b2 h2 => ?_
  simp -dsimp only [↓bp, bq, br, seval, tbRefZ]
  refine newW_intro fun b3 h3 => ?_
  obtain ⟨S, hS⟩ : ∃ S, S = (σ.setBox b2 [.int .u8 t.knd, .bool t.neg, lims t.limbs, .str t.text, .int .i64 t.num, encs t.items, encs t.tail]).setBox b3 [.int .u8 u.knd, .bool u.neg, lims u.limbs, .str u.text, .int .i64 u.num, encs u.items, encs u.tail] := ⟨_, rfl⟩
  have hn3 := (fresh_ne (σ := σ.setBox b2 [.int .u8 t.knd, .bool t.neg, lims t.limbs, .str t.text, .int .i64 t.num, encs t.items, encs t.tail]) (b := b2) (z := [.int .u8 t.knd, .bool t.neg, lims t.limbs, .str t.text, .int .i64 t.num, encs t.items, encs t.tail]) (by simp [AS.setBox]) h3).1
  have hS2 : S.box b2 = some [.int .u8 t.knd, .bool t.neg, lims t.limbs, .str t.text, .int .i64 t.num, encs t.items, encs t.tail] := by rw [hS]; simp [AS.setBox, hn3]
  have hS3 : S.box b3 = some [.int .u8 u.knd, .bool u.neg, lims u.limbs, .str u.text, .int .i64 u.num, encs u.items, encs u.tail] := by rw [hS]; simp [AS.setBox]
  have hle1 : σ.le (σ.setBox b2 [.int .u8 t.knd, .bool t.neg, lims t.limbs, .str t.text, .int .i64 t.num, encs t.items, encs t.tail]) := (AS.le.refl σ).setBox h2.1 _
  have hle : σ.le S := by rw [hS]; exact hle1.setBox (hle1.fresh h3).1 _
  rw [← hS]
  clear hS h2 h3 hn3 hle1
  repeat' (first | refine xs ?_ ?_ <;> intros | ((first | refine xh ?_ | refine xi ?_); intro bx hbx; (try simp only [fb] at hbx)) | refine xj ?_ | ((with_reducible refine And.intro ?_ ?_); omega) | refine bo_buildSlice (d' := ⟨⟩) ?_ | refine xk (by kernel_rfl) ?_ | refine xf ?_ (by repeat' first | exact lr _ | assumption | refine ls ?_ ?_ | refine lt ?_ ?_ | simp only [*]; done | exact lf ‹_› (by simp only [*])) | simp -dsimp only [↓bp, bq, br, seval, tbRefZ, *])
  refine loop_keep mixed (fun n e => ∃ i : Nat, i ≤ (t.limbs).length ∧ n = (t.limbs).length - i ∧ e 5 = .int .i64 i ∧ t.limbs.take i = u.limbs.take i) (t.limbs).length
      ⟨0, by omega, by omega, by simp -dsimp only [↓bp, bq, br, seval, tbRefZ]; first | done | rfl, rfl⟩ ?_
  rintro n v ⟨i, hi, rfl, h5, htk⟩
  simp -dsimp only [↓bp, bq, br, seval, tbRefZ] at h5
  simp -dsimp only [↓bp, bq, br, seval, tbRefZ, h5, hS2, hS3, hul]
  refine condW_dec (fun hlt => ?_) (fun hge => ?_)
  · obtain ⟨x, hx⟩ : ∃ x, t.limbs[i]? = some x := ⟨_, List.getElem?_eq_getElem (by omega)⟩
    obtain ⟨y, hy⟩ : ∃ y, u.limbs[i]? = some y := ⟨_, List.getElem?_eq_getElem (by omega)⟩
    have hw : IntKind.i64.wrap ((i : Int) + 1) = ((i + 1 : Nat) : Int) := by rw [wrap_nat (by omega) (by omega)]; rfl
    have hN := hno i x y hx hy
    by_cases hxy : x = y
    · subst hxy
      have h2 := take_same htk hx hy
      clear hi hl hI hT hno hyes hi1 ht1 hN htk c5 c1 c3 c4 g1 g2 hul
      repeat' (first | refine xs ?_ ?_ <;> intros | ((first | refine xh ?_ | refine xi ?_); intro bx hbx; (try simp only [fb] at hbx)) | refine xj ?_ | ((with_reducible refine And.intro ?_ ?_); omega) | refine bo_buildSlice (d' := ⟨⟩) ?_ | refine xk (by kernel_rfl) ?_ | refine xf ?_ (by repeat' first | exact lr _ | assumption | refine ls ?_ ?_ | refine lt ?_ ?_ | simp only [*]; done | exact lf ‹_› (by simp only [*])) | simp -dsimp only [↓bp, bq, br, seval, tbRefZ, limA, *])
      all_goals (have hlt := (List.getElem?_eq_some_iff.1 hx).1)
      all_goals exact ⟨t.limbs.length - (i + 1), by omega, i + 1, by omega, rfl, rfl, h2⟩
    · rw [hN hxy]
      have hne : ((x.toNat : Int) = y.toNat) = False := eq_false fun e => hxy (UInt32.toNat_inj.1 (by omega))
      clear hi hl hI hT hno hyes hi1 ht1 hN htk c5 c1 c3 c4 g1 g2 hul hxy
      repeat' (first | refine xs ?_ ?_ <;> intros | ((first | refine xh ?_ | refine xi ?_); intro bx hbx; (try simp only [fb] at hbx)) | refine xj ?_ | ((with_reducible refine And.intro ?_ ?_); omega) | refine bo_buildSlice (d' := ⟨⟩) ?_ | refine xk (by kernel_rfl) ?_ | refine xf ?_ (by repeat' first | exact lr _ | assumption | refine ls ?_ ?_ | refine lt ?_ ?_ | simp only [*]; done | exact lf ‹_› (by simp only [*])) | simp -dsimp only [↓bp, bq, br, seval, tbRefZ, limA, *])
      all_goals exact finish_le (Le.refl _) hle
  · have : i = t.limbs.length := by omega
    subst this
    rw [hyes (take_end (by omega) htk)] at *
    clear hi hl hno hyes htk c5 c1 c3 c4 g1 g2 hul k5
    by_cases e1 : (t.items.length : Int) = u.items.length
    · have f1 := eq_true e1
      by_cases e2 : (t.tail.length : Int) = u.tail.length
      · have f2 := eq_true e2
        rw [pre_len e1] at hI
        rw [pre_len e2] at hT
        clear e1 e2 hi1 ht1
        generalize sames t.items u.items = z1 at *
        generalize sames t.tail u.tail = z2 at *
        cases z1 <;> cases z2
        all_goals
          repeat' (first | refine xs ?_ ?_ <;> intros | ((first | refine xh ?_ | refine xi ?_); intro bx hbx; (try simp only [fb] at hbx)) | refine Pure.use (hI) ?_ | refine Pure.head (hI) ?_ | refine Pure.use (hT) ?_ | refine Pure.head (hT) ?_ | refine xj ?_ | ((with_reducible refine And.intro ?_ ?_); omega) | refine bo_buildSlice (d' := ⟨⟩) ?_ | refine xk (by kernel_rfl) ?_ | refine xf ?_ (by repeat' first | exact lr _ | assumption | refine ls ?_ ?_ | refine lt ?_ ?_ | simp only [*]; done | exact lf ‹_› (by simp only [*])) | simp -dsimp only [↓bp, bq, br, seval, tbRefZ, *])
          all_goals exact finish_le (Le.refl _) hle
      · have f2 := eq_false e2
        rw [ht1 e2]
        clear e1 e2 hi1 ht1 hI hT
        repeat' (first | refine xs ?_ ?_ <;> intros | ((first | refine xh ?_ | refine xi ?_); intro bx hbx; (try simp only [fb] at hbx)) | refine xj ?_ | ((with_reducible refine And.intro ?_ ?_); omega) | refine bo_buildSlice (d' := ⟨⟩) ?_ | refine xk (by kernel_rfl) ?_ | refine xf ?_ (by repeat' first | exact lr _ | assumption | refine ls ?_ ?_ | refine lt ?_ ?_ | simp only [*]; done | exact lf ‹_› (by simp only [*])) | simp -dsimp only [↓bp, bq, br, seval, tbRefZ, *])
        all_goals exact finish_le (Le.refl _) hle
    · have f1 := eq_false e1
      rw [hi1 e1]
      clear e1 hi1 ht1 hI hT
      repeat' (first | refine xs ?_ ?_ <;> intros | ((first | refine xh ?_ | refine xi ?_); intro bx hbx; (try simp only [fb] at hbx)) | refine xj ?_ | ((with_reducible refine And.intro ?_ ?_); omega) | refine bo_buildSlice (d' := ⟨⟩) ?_ | refine xk (by kernel_rfl) ?_ | refine xf ?_ (by repeat' first | exact lr _ | assumption | refine ls ?_ ?_ | refine lt ?_ ?_ | simp only [*]; done | exact lf ‹_› (by simp only [*])) | simp -dsimp only [↓bp, bq, br, seval, tbRefZ, *])
      all_goals exact finish_le (Le.refl _) hle
theorem ralike_at (t u : Term) (hl : t.limbs.length ≤ 1000000000) (hI : Pure Tryz.prog G 33 [encs t.items, encs u.items] (.bool (pre t.items u.items))) (hT : Pure Tryz.prog G 33 [encs t.tail, encs u.tail] (.bool (pre t.tail u.tail))) :
    Pure Tryz.prog G 58 [t.enc, u.enc] (.bool (same t u)) := by
  by_cases k1 : t.knd = u.knd
  · by_cases k3 : t.text = u.text
    · by_cases k4 : t.num = u.num
      · by_cases k5 : (t.limbs.length : Int) = u.limbs.length
        · cases g1 : t.neg with
          | true =>
            cases g2 : u.neg with
            | true => exact ralike_mt G t u hl hI hT (eq_true k1) g1 g2 (eq_true k3) (eq_true k4) (eq_true k5)
            | false => exact ralike_n2t G t u (eq_true k1) g1 g2
          | false =>
            cases g2 : u.neg with
            | true => exact ralike_n2f G t u (eq_true k1) g1 g2
            | false => exact ralike_mf G t u hl hI hT (eq_true k1) g1 g2 (eq_true k3) (eq_true k4) (eq_true k5)
        · cases g1 : t.neg with
          | true =>
            cases g2 : u.neg with
            | true => exact ralike_n5t G t u (eq_true k1) g1 g2 (eq_true k3) (eq_true k4) (eq_false k5)
            | false => exact ralike_n2t G t u (eq_true k1) g1 g2
          | false =>
            cases g2 : u.neg with
            | true => exact ralike_n2f G t u (eq_true k1) g1 g2
            | false => exact ralike_n5f G t u (eq_true k1) g1 g2 (eq_true k3) (eq_true k4) (eq_false k5)
      · cases g1 : t.neg with
        | true =>
          cases g2 : u.neg with
          | true => exact ralike_n4t G t u (eq_true k1) g1 g2 (eq_true k3) (eq_false k4)
          | false => exact ralike_n2t G t u (eq_true k1) g1 g2
        | false =>
          cases g2 : u.neg with
          | true => exact ralike_n2f G t u (eq_true k1) g1 g2
          | false => exact ralike_n4f G t u (eq_true k1) g1 g2 (eq_true k3) (eq_false k4)
    · cases g1 : t.neg with
      | true =>
        cases g2 : u.neg with
        | true => exact ralike_n3t G t u (eq_true k1) g1 g2 (eq_false k3)
        | false => exact ralike_n2t G t u (eq_true k1) g1 g2
      | false =>
        cases g2 : u.neg with
        | true => exact ralike_n2f G t u (eq_true k1) g1 g2
        | false => exact ralike_n3f G t u (eq_true k1) g1 g2 (eq_false k3)
  · exact ralike_n1 G t u (eq_false k1)
theorem ralike_pure (t : Term) : ∀ u : Term, t.bulk ≤ 1000000000 → u.bulk ≤ 1000000000 → Pure Tryz.prog G 58 [t.enc, u.enc] (.bool (same t u)) := by
  refine Term.ind (P := fun t => ∀ u : Term, t.bulk ≤ 1000000000 → u.bulk ≤ 1000000000 → Pure Tryz.prog G 58 [t.enc, u.enc] (.bool (same t u))) (fun t ih1 ih2 u ht hu => ?_) t
  have h1 := rbegins_pure G t.items u.items (by have := len_items t; omega) (by have := len_items u; omega) (fun x hx y hy => ih1 x hx y (by have := bulk_item hx; omega) (by have := bulk_item hy; omega))
  have h2 := rbegins_pure G t.tail u.tail (by have := len_tail t; omega) (by have := len_tail u; omega) (fun x hx y hy => ih2 x hx y (by have := bulk_tail hx; omega) (by have := bulk_tail hy; omega))
  exact ralike_at G t u (by have := len_limbs t; omega) h1 h2
theorem rbeg_pure (l r : List Term) (hl : bulks l ≤ 1000000000) (hr : bulks r ≤ 1000000000) : Pure Tryz.prog G 33 [encs l, encs r] (.bool (pre l r)) :=
  rbegins_pure G l r (by have := len_le_bulks l; omega) (by have := len_le_bulks r; omega) (fun x hx y hy => ralike_pure G x y (by have := bulk_mem hx; omega) (by have := bulk_mem hy; omega))
end Go.Proofs.YtphnoaihojccbaaGreatDoor
set_option maxRecDepth 20000
namespace Go.Proofs.YtphnoaihojccbaaGreatDoor
open Go Go.Av
def tbRefZ2 := And.intro (And.intro (And.intro (And.intro (And.intro @tf3 @tf4) (And.intro @tf5 (And.intro @tf85 @tf9))) (And.intro (And.intro @tf40 @tf39) (And.intro @tf22 (And.intro @tf42 @tf23)))) (And.intro (And.intro (And.intro @tf44 @tf24) (And.intro @tf46 (And.intro @tf26 @Term.flat_enc))) (And.intro (And.intro @Term.isv_enc (And.intro @Term.fold_enc @isv_encs)) (And.intro @flat_encs (And.intro @len_encs @ix_encs))))) (And.intro (And.intro (And.intro (And.intro @isv_lims @flat_lims) (And.intro @len_lims (And.intro @ix_lims @flat_limA))) (And.intro (And.intro @Ended.flat_enc (And.intro @Ended.isv_enc @Ended.fold_enc)) (And.intro @Named.flat_enc (And.intro @Named.isv_enc @Named.fold_enc)))) (And.intro (And.intro (And.intro @Seen.flat_enc @Seen.isv_enc) (And.intro @Seen.fold_enc (And.intro @isv_encE @flat_encE))) (And.intro (And.intro @len_encE (And.intro @ix_encE @isv_encN)) (And.intro @flat_encN (And.intro @len_encN @ix_encN)))))
variable (G : Nat → AV)
set_option maxHeartbeats 1000000 in
theorem rended_pure (l r : List Ended) (hl : l.length ≤ 1000000000) (hr : r.length ≤ 1000000000) (hf : ∀ x, x ∈ l → ∀ y, y ∈ r → Pure Tryz.prog G 58 [x.reason.enc, y.reason.enc] (.bool (same x.reason y.reason))) :
    Pure Tryz.prog G 34 [encE l, encE r] (.bool (preE l r)) := by
  intro σ
  by_cases hn : (l.length : Int) ≤ r.length
  · have hn' := eq_false (show ¬ (r.length : Int) < l.length by omega)
    refine Tri.of_awp mixed Tryz.func34 rfl (by kernel_rfl) (by kernel_rfl) (by simp [Tryz.ntmps34]) Tryz.results34 ?_
    simp -dsimp only [↓bp, bq, br, seval, tbRefZ2, hn']
    refine loop_keep mixed (fun n e => ∃ i : Nat, i ≤ (l).length ∧ n = (l).length - i ∧ e 5 = .int .i64 i ∧ l.take i = r.take i) (l).length
        ⟨0, by omega, by omega, by simp -dsimp only [↓bp, bq, br, seval, tbRefZ2]; first | done | rfl, rfl⟩ ?_
    rintro n v ⟨i, hi, rfl, h5, htk⟩
    simp -dsimp only [↓bp, bq, br, seval, tbRefZ2] at h5
    simp -dsimp only [↓bp, bq, br, seval, tbRefZ2, h5]
    refine condW_dec (fun hlt => ?_) (fun hge => ?_)
    · obtain ⟨x, hx⟩ : ∃ x, l[i]? = some x := ⟨_, List.getElem?_eq_getElem (by omega)⟩
      obtain ⟨y, hy⟩ : ∃ y, r[i]? = some y := ⟨_, List.getElem?_eq_getElem (by omega)⟩
      have hw : IntKind.i64.wrap ((i : Int) + 1) = ((i + 1 : Nat) : Int) := by rw [wrap_nat (by omega) (by omega)]; rfl
      have hp := hf x (List.mem_of_getElem? hx) y (List.mem_of_getElem? hy)
      by_cases e1 : x.pid = y.pid
      · have f1 := eq_true e1
        by_cases e2 : x.reason = y.reason
        · have hxy : x = y := by cases x; cases y; simp only at e1 e2; rw [e1, e2]
          subst hxy
          have h2 := take_same htk hx hy
          rw [(same_iff x.reason x.reason).2 rfl] at hp
          clear hi hn hl hr hf htk e1 e2 f1
          repeat' (first | refine xs ?_ ?_ <;> intros | ((first | refine xh ?_ | refine xi ?_); intro bx hbx; (try simp only [fb] at hbx)) | refine Pure.use (hp) ?_ | refine Pure.head (hp) ?_ | refine xj ?_ | ((with_reducible refine And.intro ?_ ?_); omega) | refine bo_buildSlice (d' := ⟨⟩) ?_ | refine xk (by kernel_rfl) ?_ | refine xf ?_ (by repeat' first | exact lr _ | assumption | refine ls ?_ ?_ | refine lt ?_ ?_ | simp only [*]; done | exact lf ‹_› (by simp only [*])) | simp -dsimp only [↓bp, bq, br, seval, tbRefZ2, *])
          all_goals (have hlt := (List.getElem?_eq_some_iff.1 hx).1)
          all_goals exact ⟨l.length - (i + 1), by omega, i + 1, by omega, rfl, rfl, h2⟩
        · rw [same_no e2] at hp
          have hd : preE l r = false := by
            rw [Bool.eq_false_iff]
            intro e
            have := pre_at ((preE_iff l r).1 e) hx
            rw [hy] at this
            injection this with this
            exact e2 (by rw [this])
          rw [hd]
          clear hi hn hl hr hd hf htk
          clear e1 e2
          repeat' (first | refine xs ?_ ?_ <;> intros | ((first | refine xh ?_ | refine xi ?_); intro bx hbx; (try simp only [fb] at hbx)) | refine Pure.use (hp) ?_ | refine Pure.head (hp) ?_ | refine xj ?_ | ((with_reducible refine And.intro ?_ ?_); omega) | refine bo_buildSlice (d' := ⟨⟩) ?_ | refine xk (by kernel_rfl) ?_ | refine xf ?_ (by repeat' first | exact lr _ | assumption | refine ls ?_ ?_ | refine lt ?_ ?_ | simp only [*]; done | exact lf ‹_› (by simp only [*])) | simp -dsimp only [↓bp, bq, br, seval, tbRefZ2, *])
          all_goals rfl
      · have f1 := eq_false e1
        have hd : preE l r = false := by
          rw [Bool.eq_false_iff]
          intro e
          have := pre_at ((preE_iff l r).1 e) hx
          rw [hy] at this
          injection this with this
          exact e1 (by rw [this])
        rw [hd]
        clear hi hn hl hr hd hf htk
        clear e1 hp
        repeat' (first | refine xs ?_ ?_ <;> intros | ((first | refine xh ?_ | refine xi ?_); intro bx hbx; (try simp only [fb] at hbx)) | refine xj ?_ | ((with_reducible refine And.intro ?_ ?_); omega) | refine bo_buildSlice (d' := ⟨⟩) ?_ | refine xk (by kernel_rfl) ?_ | refine xf ?_ (by repeat' first | exact lr _ | assumption | refine ls ?_ ?_ | refine lt ?_ ?_ | simp only [*]; done | exact lf ‹_› (by simp only [*])) | simp -dsimp only [↓bp, bq, br, seval, tbRefZ2, *])
        all_goals rfl
    · have : i = l.length := by omega
      subst this
      rw [(preE_iff l r).2 (pre_all htk)]
      clear hi hn hl hr hf htk
      repeat' (first | refine xs ?_ ?_ <;> intros | ((first | refine xh ?_ | refine xi ?_); intro bx hbx; (try simp only [fb] at hbx)) | refine xj ?_ | ((with_reducible refine And.intro ?_ ?_); omega) | refine bo_buildSlice (d' := ⟨⟩) ?_ | refine xk (by kernel_rfl) ?_ | refine xf ?_ (by repeat' first | exact lr _ | assumption | refine ls ?_ ?_ | refine lt ?_ ?_ | simp only [*]; done | exact lf ‹_› (by simp only [*])) | simp -dsimp only [↓bp, bq, br, seval, tbRefZ2, *])
      all_goals rfl
  · have hd : preE l r = false := by unfold preE; rw [decide_eq_false hn, Bool.false_and]
    have hn' := eq_true (show (r.length : Int) < l.length by omega)
    rw [hd]
    clear hn hl hr hd hf
    refine Tri.of_awp mixed Tryz.func34 rfl (by kernel_rfl) (by kernel_rfl) (by simp [Tryz.ntmps34]) Tryz.results34 ?_
    repeat' (first | refine xs ?_ ?_ <;> intros | ((first | refine xh ?_ | refine xi ?_); intro bx hbx; (try simp only [fb] at hbx)) | refine xj ?_ | ((with_reducible refine And.intro ?_ ?_); omega) | refine bo_buildSlice (d' := ⟨⟩) ?_ | refine xk (by kernel_rfl) ?_ | refine xf ?_ (by repeat' first | exact lr _ | assumption | refine ls ?_ ?_ | refine lt ?_ ?_ | simp only [*]; done | exact lf ‹_› (by simp only [*])) | simp -dsimp only [↓bp, bq, br, seval, tbRefZ2, *])
    all_goals rfl
theorem rend_pure (l r : List Ended) (hl : bulkE l ≤ 1000000000) (hr : bulkE r ≤ 1000000000) : Pure Tryz.prog G 34 [encE l, encE r] (.bool (preE l r)) :=
  rended_pure G l r (by have := lenE_le l; omega) (by have := lenE_le r; omega) (fun x hx y hy => ralike_pure G x.reason y.reason (by have := bulkE_mem hx; omega) (by have := bulkE_mem hy; omega))
set_option maxHeartbeats 1000000 in
theorem rwithin_pure (a b : Seen) (ha : a.bulk ≤ 1000000000) (hb : b.bulk ≤ 1000000000) : Pure Tryz.prog G 12 [a.enc, b.enc] (.bool (within a b)) := by
  unfold Seen.bulk at ha hb
  have h1 := rbeg_pure G a.out b.out (by omega) (by omega)
  have h2 := rend_pure G a.ended b.ended (by omega) (by omega)
  clear ha hb
  intro σ
  refine Tri.of_awp mixed Tryz.func12 rfl (by kernel_rfl) (by kernel_rfl) (by simp [Tryz.ntmps12]) Tryz.results12 ?_
  repeat' (first | refine xs ?_ ?_ <;> intros | ((first | refine xh ?_ | refine xi ?_); intro bx hbx; (try simp only [fb] at hbx)) | refine Pure.use (h1) ?_ | refine Pure.head (h1) ?_ | refine Pure.use (h2) ?_ | refine Pure.head (h2) ?_ | refine xj ?_ | ((with_reducible refine And.intro ?_ ?_); omega) | refine bo_buildSlice (d' := ⟨⟩) ?_ | refine xk (by kernel_rfl) ?_ | refine xf ?_ (by repeat' first | exact lr _ | assumption | refine ls ?_ ?_ | refine lt ?_ ?_ | simp only [*]; done | exact lf ‹_› (by simp only [*])) | simp -dsimp only [↓bp, bq, br, seval, tbRefZ2, *])
  all_goals (first | (simp only [within, *, Bool.and_true, Bool.true_and, Bool.and_false, Bool.false_and, Bool.or_true, Bool.true_or, Bool.or_false, Bool.false_or, Bool.not_true, Bool.not_false, if_true, if_false, Bool.and_self, Bool.or_self]; done) | (simp [within, *]; done) | (simp_all [within]; done))
theorem neqN (x y : Named) : abin Tryz.prog .neq 46 x.enc y.enc = some (.bool (decide (¬ x = y))) := by
  have e : fldEq [.str, .int .i64] [.str x.name, .int .i64 x.pid] [.str y.name, .int .i64 y.pid] = some (decide (x.name = y.name) && (decide (x.pid = y.pid) && true)) := by
    rw [fe_str, fe_int, fe_nil]; rfl
  unfold Named.enc
  rw [abin_agg, eqK_named]
  simp only [Option.bind_some, e]
  have : (decide (x.name = y.name) && (decide (x.pid = y.pid) && true)) = decide (x = y) := by
    rw [Bool.eq_iff_iff]
    simp only [Bool.and_eq_true, decide_eq_true_eq, and_true]
    constructor
    · rintro ⟨h1, h2⟩; cases x; cases y; simp only at h1 h2; rw [h1, h2]
    · rintro rfl; exact ⟨rfl, rfl⟩
  rw [this]
  simp [aeq]
theorem sameS_no {a b : Seen} (h : ¬ a = b) : sameS a b = false := by rw [Bool.eq_false_iff]; exact fun e => h ((sameS_iff a b).1 e)
set_option maxHeartbeats 1000000 in
theorem rsame_no (a b : Seen) {w1 w2 : Bool} (h1 : Pure Tryz.prog G 12 [a.enc, b.enc] (.bool w1)) (h2 : Pure Tryz.prog G 12 [b.enc, a.enc] (.bool w2))
    (h : w1 = false ∨ w1 = true ∧ w2 = false ∨ w1 = true ∧ w2 = true ∧ (a.verdict = b.verdict) = False ∨ w1 = true ∧ w2 = true ∧ (a.verdict = b.verdict) = True ∧ ((a.names.length : Int) = b.names.length) = False) :
    Pure Tryz.prog G 11 [a.enc, b.enc] (.bool false) := by
  intro σ
  rcases h with rfl | ⟨rfl, rfl⟩ | ⟨rfl, rfl, h3⟩ | ⟨rfl, rfl, h3, h4⟩
  all_goals
    refine Tri.of_awp mixed Tryz.func11 rfl (by kernel_rfl) (by kernel_rfl) (by simp [Tryz.ntmps11]) Tryz.results11 ?_
    repeat' (first | refine xs ?_ ?_ <;> intros | ((first | refine xh ?_ | refine xi ?_); intro bx hbx; (try simp only [fb] at hbx)) | refine Pure.use (h1) ?_ | refine Pure.head (h1) ?_ | refine Pure.use (h2) ?_ | refine Pure.head (h2) ?_ | refine xj ?_ | ((with_reducible refine And.intro ?_ ?_); omega) | refine bo_buildSlice (d' := ⟨⟩) ?_ | refine xk (by kernel_rfl) ?_ | refine xf ?_ (by repeat' first | exact lr _ | assumption | refine ls ?_ ?_ | refine lt ?_ ?_ | simp only [*]; done | exact lf ‹_› (by simp only [*])) | simp -dsimp only [↓bp, bq, br, seval, tbRefZ2, *])
    all_goals rfl
set_option maxHeartbeats 1000000 in
theorem rsame_yes (a b : Seen) (hl : a.names.length ≤ 1000000000) (h1 : Pure Tryz.prog G 12 [a.enc, b.enc] (.bool true)) (h2 : Pure Tryz.prog G 12 [b.enc, a.enc] (.bool true)) (h3 : (a.verdict = b.verdict) = True) (h4 : ((a.names.length : Int) = b.names.length) = True) (hs : a.names = b.names → sameS a b = true) :
    Pure Tryz.prog G 11 [a.enc, b.enc] (.bool (sameS a b)) := by
  have h4' := of_eq_true h4
  have hno : ∀ (i : Nat) (x y : Named), a.names[i]? = some x → b.names[i]? = some y → x ≠ y → sameS a b = false := fun i x y hx hy h => sameS_no fun e => by
    rw [e, hy] at hx; injection hx with hx; exact h hx.symm
  refine Pure.of_le fun σ => ?_
  refine Tri.of_awp mixed Tryz.func11 rfl (by kernel_rfl) (by kernel_rfl) (by simp [Tryz.ntmps11]) Tryz.results11 ?_
  simp -dsimp only [↓bp, bq, br, seval, tbRefZ2]
  refine newW_intro fun b2 hb2 => ?_
  simp -dsimp only [↓bp, bq, br, seval, tbRefZ2]
  refine newW_intro fun b3 hb3 => ?_
  obtain ⟨S, hS⟩ : ∃ S, S = (σ.setBox b2 [encs a.out, encE a.ended, encN a.names, .int .i64 a.verdict, .int .i64 a.spent, .int .i64 a.clock]).setBox b3 [encs b.out, encE b.ended, encN b.names, .int .i64 b.verdict, .int .i64 b.spent, .int .i64 b.clock] := ⟨_, rfl⟩
  have hn3 := (fresh_ne (σ := σ.setBox b2 [encs a.out, encE a.ended, encN a.names, .int .i64 a.verdict, .int .i64 a.spent, .int .i64 a.clock]) (b := b2) (z := [encs a.out, encE a.ended, encN a.names, .int .i64 a.verdict, .int .i64 a.spent, .int .i64 a.clock]) (by simp [AS.setBox]) hb3).1
  have hS2 : S.box b2 = some [encs a.out, encE a.ended, encN a.names, .int .i64 a.verdict, .int .i64 a.spent, .int .i64 a.clock] := by rw [hS]; simp [AS.setBox, hn3]
  have hS3 : S.box b3 = some [encs b.out, encE b.ended, encN b.names, .int .i64 b.verdict, .int .i64 b.spent, .int .i64 b.clock] := by rw [hS]; simp [AS.setBox]
  have hle1 : σ.le (σ.setBox b2 [encs a.out, encE a.ended, encN a.names, .int .i64 a.verdict, .int .i64 a.spent, .int .i64 a.clock]) := (AS.le.refl σ).setBox hb2.1 _
  have hle : σ.le S := by rw [hS]; exact hle1.setBox (hle1.fresh hb3).1 _
  rw [← hS]
  clear hS hb2 hb3 hn3 hle1
  repeat' (first | refine xs ?_ ?_ <;> intros | ((first | refine xh ?_ | refine xi ?_); intro bx hbx; (try simp only [fb] at hbx)) | refine Pure.use (h1) ?_ | refine Pure.head (h1) ?_ | refine Pure.use (h2) ?_ | refine Pure.head (h2) ?_ | refine xj ?_ | ((with_reducible refine And.intro ?_ ?_); omega) | refine bo_buildSlice (d' := ⟨⟩) ?_ | refine xk (by kernel_rfl) ?_ | refine xf ?_ (by repeat' first | exact lr _ | assumption | refine ls ?_ ?_ | refine lt ?_ ?_ | simp only [*]; done | exact lf ‹_› (by simp only [*])) | simp -dsimp only [↓bp, bq, br, seval, tbRefZ2, *])
  refine loop_keep mixed (fun n e => ∃ i : Nat, i ≤ (a.names).length ∧ n = (a.names).length - i ∧ e 5 = .int .i64 i ∧ a.names.take i = b.names.take i) (a.names).length
      ⟨0, by omega, by omega, by simp -dsimp only [↓bp, bq, br, seval, tbRefZ2]; first | done | rfl, rfl⟩ ?_
  rintro n v ⟨i, hi, rfl, h5, htk⟩
  simp -dsimp only [↓bp, bq, br, seval, tbRefZ2] at h5
  simp -dsimp only [↓bp, bq, br, seval, tbRefZ2, h5, hS2, hS3]
  refine condW_dec (fun hlt => ?_) (fun hge => ?_)
  · obtain ⟨x, hx⟩ : ∃ x, a.names[i]? = some x := ⟨_, List.getElem?_eq_getElem (by omega)⟩
    obtain ⟨y, hy⟩ : ∃ y, b.names[i]? = some y := ⟨_, List.getElem?_eq_getElem (by omega)⟩
    have hw : IntKind.i64.wrap ((i : Int) + 1) = ((i + 1 : Nat) : Int) := by rw [wrap_nat (by omega) (by omega)]; rfl
    have hN := hno i x y hx hy
    have hb := neqN x y
    by_cases hxy : x = y
    · subst hxy
      have h2 := take_same htk hx hy
      replace hb : abin Tryz.prog .neq 46 x.enc x.enc = some (.bool false) := by rw [hb]; simp
      clear hi hl hno hN htk hs h3 h4 h4' h1
      repeat' (first | refine xs ?_ ?_ <;> intros | ((first | refine xh ?_ | refine xi ?_); intro bx hbx; (try simp only [fb] at hbx)) | refine xj ?_ | ((with_reducible refine And.intro ?_ ?_); omega) | refine bo_buildSlice (d' := ⟨⟩) ?_ | refine xk (by kernel_rfl) ?_ | refine xf ?_ (by repeat' first | exact lr _ | assumption | refine ls ?_ ?_ | refine lt ?_ ?_ | simp only [*]; done | exact lf ‹_› (by simp only [*])) | simp -dsimp only [↓bp, bq, br, seval, tbRefZ2, *])
      all_goals (have hlt := (List.getElem?_eq_some_iff.1 hx).1)
      all_goals exact ⟨a.names.length - (i + 1), by omega, i + 1, by omega, rfl, rfl, h2⟩
    · rw [hN hxy]
      replace hb : abin Tryz.prog .neq 46 x.enc y.enc = some (.bool true) := by rw [hb]; simp [hxy]
      clear hi hl hno hN htk hs h3 h4 h4' h1 hxy
      repeat' (first | refine xs ?_ ?_ <;> intros | ((first | refine xh ?_ | refine xi ?_); intro bx hbx; (try simp only [fb] at hbx)) | refine xj ?_ | ((with_reducible refine And.intro ?_ ?_); omega) | refine bo_buildSlice (d' := ⟨⟩) ?_ | refine xk (by kernel_rfl) ?_ | refine xf ?_ (by repeat' first | exact lr _ | assumption | refine ls ?_ ?_ | refine lt ?_ ?_ | simp only [*]; done | exact lf ‹_› (by simp only [*])) | simp -dsimp only [↓bp, bq, br, seval, tbRefZ2, *])
      all_goals exact finish_le (Le.refl _) hle
  · have : i = a.names.length := by omega
    subst this
    rw [hs (take_end (by omega) htk)]
    clear hi hl hno htk hs h3 h4 h4' h1 h2
    repeat' (first | refine xs ?_ ?_ <;> intros | ((first | refine xh ?_ | refine xi ?_); intro bx hbx; (try simp only [fb] at hbx)) | refine xj ?_ | ((with_reducible refine And.intro ?_ ?_); omega) | refine bo_buildSlice (d' := ⟨⟩) ?_ | refine xk (by kernel_rfl) ?_ | refine xf ?_ (by repeat' first | exact lr _ | assumption | refine ls ?_ ?_ | refine lt ?_ ?_ | simp only [*]; done | exact lf ‹_› (by simp only [*])) | simp -dsimp only [↓bp, bq, br, seval, tbRefZ2, *])
    all_goals exact finish_le (Le.refl _) hle
theorem rsame_pure (a b : Seen) (ha : a.bulk ≤ 1000000000) (hb : b.bulk ≤ 1000000000) : Pure Tryz.prog G 11 [a.enc, b.enc] (.bool (sameS a b)) := by
  have h1 := rwithin_pure G a b ha hb
  have h2 := rwithin_pure G b a hb ha
  have hl : a.names.length ≤ 1000000000 := by unfold Seen.bulk at ha; have := lenN_le a.names; omega
  have hz : sameS a b = (decide (a.verdict = b.verdict) && (decide (a.names = b.names) && (within a b && within b a))) := rfl
  by_cases h3 : a.verdict = b.verdict
  · by_cases h4 : (a.names.length : Int) = b.names.length
    · cases e1 : within a b with
      | false => rw [e1] at h1; rw [hz, e1]; simpa using rsame_no G a b h1 h2 (.inl rfl)
      | true =>
        cases e2 : within b a with
        | false => rw [e1] at h1; rw [e2] at h2; rw [hz, e2]; simpa using rsame_no G a b h1 h2 (.inr (.inl ⟨rfl, rfl⟩))
        | true =>
          rw [e1] at h1
          rw [e2] at h2
          exact rsame_yes G a b hl h1 h2 (eq_true h3) (eq_true h4) fun h => by rw [hz, e1, e2, h, h3]; simp
    · have hn : sameS a b = false := sameS_no fun e => h4 (by rw [e])
      rw [hn]
      cases e1 : within a b with
      | false => rw [e1] at h1; exact rsame_no G a b h1 h2 (.inl rfl)
      | true =>
        cases e2 : within b a with
        | false => rw [e1] at h1; rw [e2] at h2; exact rsame_no G a b h1 h2 (.inr (.inl ⟨rfl, rfl⟩))
        | true => rw [e1] at h1; rw [e2] at h2; exact rsame_no G a b h1 h2 (.inr (.inr (.inr ⟨rfl, rfl, eq_true h3, eq_false h4⟩)))
  · have hn : sameS a b = false := sameS_no fun e => h3 (by rw [e])
    rw [hn]
    cases e1 : within a b with
    | false => rw [e1] at h1; exact rsame_no G a b h1 h2 (.inl rfl)
    | true =>
      cases e2 : within b a with
      | false => rw [e1] at h1; rw [e2] at h2; exact rsame_no G a b h1 h2 (.inr (.inl ⟨rfl, rfl⟩))
      | true => rw [e1] at h1; rw [e2] at h2; exact rsame_no G a b h1 h2 (.inr (.inr (.inl ⟨rfl, rfl, eq_false h3⟩)))
end Go.Proofs.YtphnoaihojccbaaGreatDoor
set_option maxRecDepth 20000
namespace Go.Proofs.YtphnoaihojccbaaGreatDoor
open Go Go.Av
def tbSeenLent := And.intro (And.intro (And.intro (And.intro (And.intro @tf3 @tf4) (And.intro @tf5 (And.intro @tf85 @tf9))) (And.intro (And.intro @tf40 @tf39) (And.intro @tf22 (And.intro @tf42 @tf23)))) (And.intro (And.intro (And.intro @tf44 @tf24) (And.intro @tf46 (And.intro @tf26 @Term.flat_enc))) (And.intro (And.intro @Term.isv_enc (And.intro @Term.fold_enc @isv_encs)) (And.intro @flat_encs (And.intro @len_encs @ix_encs))))) (And.intro (And.intro (And.intro (And.intro @isv_lims @flat_lims) (And.intro @len_lims (And.intro @ix_lims @flat_limA))) (And.intro (And.intro @Ended.flat_enc (And.intro @Ended.isv_enc @Ended.fold_enc)) (And.intro @Named.flat_enc (And.intro @Named.isv_enc @Named.fold_enc)))) (And.intro (And.intro (And.intro @Seen.flat_enc @Seen.isv_enc) (And.intro @Seen.fold_enc (And.intro @isv_encE @flat_encE))) (And.intro (And.intro @len_encE (And.intro @ix_encE @isv_encN)) (And.intro @flat_encN (And.intro @len_encN @ix_encN)))))
variable (G : Nat → AV)
def zeroTm : Term := .mk 0 false [] [] 0 [] []
def mkE (k i : Int) : Ended := ⟨markI k i, zeroTm⟩
theorem ended_le (p : Int) {k : UInt8} {g : Bool} {s : List UInt8} {n : Int} : Le (.agg [.int .i64 p, .int .u8 k.toNat, .bool g, .nil, .str s, .int .i64 n, .nil, .nil]) (Ended.mk p (.mk k g [] s n [] [])).enc := by
  have e : (Ended.mk p (.mk k g [] s n [] [])).enc = .agg [.int .i64 p, .int .u8 k.toNat, .bool g, .sl .none [] [], .str s, .int .i64 n, .sl .none [] [], .sl .none [] []] := by simp [Ended.enc, Term.knd, Term.kind, Term.neg, Term.limbs, Term.text, Term.num, Term.items, Term.tail, lims, encs]
  rw [e]
  exact Le.agg (.cons (Le.refl _) (.cons (Le.refl _) (.cons (Le.refl _) (.cons Le.nil (.cons (Le.refl _) (.cons (Le.refl _) (.cons Le.nil (.cons Le.nil .nil)))))))) (fun d hd => by simp at hd; rcases hd with rfl | rfl | rfl | rfl | rfl | rfl | rfl <;> rfl)
theorem mkE_pure (k i : Int) : Pure Tryz.prog G 47 [.int .i64 k, .int .i64 i] (mkE k i).enc := by
  refine Pure.tellLess (v := .agg [.int .i64 (markI k i), .int .u8 0, .bool false, .nil, .str [], .int .i64 0, .nil, .nil]) ?_ (ended_le _ (k := 0))
  intro σ
  refine Tri.of_awp mixed Tryz.func47 rfl (by kernel_rfl) (by kernel_rfl) (by simp [Tryz.ntmps47]) Tryz.results47 ?_
  repeat' (first | refine xs ?_ ?_ <;> intros | ((first | refine xh ?_ | refine xi ?_); intro bx hbx; (try simp only [fb] at hbx)) | refine Pure.use (by apply mark_pure <;> (first | assumption | omega | (simp only [*]; done))) ?_ | refine xj ?_ | ((with_reducible refine And.intro ?_ ?_); omega) | refine bo_buildSlice (d' := ⟨⟩) ?_ | refine xk (by kernel_rfl) ?_ | refine xf ?_ (by repeat' first | exact lr _ | assumption | refine ls ?_ ?_ | refine lt ?_ ?_ | simp only [*]; done | exact lf ‹_› (by simp only [*])) | simp -dsimp only [↓bp, bq, br, seval, tbSeenLent, *])
  all_goals rfl
def Ended.lent (e : Ended) : AV := .agg [.int .i64 e.pid, .int .u8 e.reason.knd, .bool e.reason.neg, lentLims e.reason.limbs, .str e.reason.text, .int .i64 e.reason.num, lents e.reason.items, lents e.reason.tail]
theorem Ended.flat_lent (e : Ended) : flat e.lent = [.int .i64 e.pid, .int .u8 e.reason.knd, .bool e.reason.neg, lentLims e.reason.limbs, .str e.reason.text, .int .i64 e.reason.num, lents e.reason.items, lents e.reason.tail] := by simp only [Ended.lent, flat]
theorem Ended.isv_lent (e : Ended) : isv e.lent = true := by simp only [Ended.lent, isv]
theorem Ended.fold_lent (e : Ended) : AV.agg [.int .i64 e.pid, .int .u8 e.reason.knd, .bool e.reason.neg, lentLims e.reason.limbs, .str e.reason.text, .int .i64 e.reason.num, lents e.reason.items, lents e.reason.tail] = e.lent := by simp only [Ended.lent]
theorem lentE_leE (e : Ended) : LeE e.lent e.enc := by
  refine ⟨?_, e.isv_enc, fun c hc => by rw [e.flat_enc] at hc; simp at hc; rcases hc with rfl | rfl | rfl | rfl | rfl | rfl | rfl | rfl <;> rfl⟩
  rw [e.flat_lent, e.flat_enc]
  exact .cons (Le.refl _) (.cons (Le.refl _) (.cons (Le.refl _) (.cons (lentLims_le _) (.cons (Le.refl _) (.cons (Le.refl _) (.cons (lents_le _) (.cons (lents_le _) .nil)))))))
theorem lentE_le (e : Ended) : Le e.lent e.enc := by
  have h := (lentE_leE e).cells
  rw [← e.fold_lent, ← e.fold_enc]
  rw [e.flat_lent, e.flat_enc] at h
  exact Le.agg h (fun d hd => by simp at hd; rcases hd with rfl | rfl | rfl | rfl | rfl | rfl | rfl | rfl <;> rfl)
theorem lentE_pure (e : Ended) (hb : e.reason.bulk ≤ 1000000000) : Pure Tryz.prog G 46 [e.enc] e.lent := by
  have hp := lent_pure G e.reason hb
  intro σ
  refine Tri.of_awp mixed Tryz.func46 rfl (by kernel_rfl) (by kernel_rfl) (by simp [Tryz.ntmps46]) Tryz.results46 ?_
  repeat' (first | refine xs ?_ ?_ <;> intros | ((first | refine xh ?_ | refine xi ?_); intro bx hbx; (try simp only [fb] at hbx)) | refine Pure.use (hp) ?_ | refine Pure.head (hp) ?_ | refine xj ?_ | ((with_reducible refine And.intro ?_ ?_); omega) | refine bo_buildSlice (d' := ⟨⟩) ?_ | refine xk (by kernel_rfl) ?_ | refine xf ?_ (by repeat' first | exact lr _ | assumption | refine ls ?_ ?_ | refine lt ?_ ?_ | simp only [*]; done | exact lf ‹_› (by simp only [*])) | simp -dsimp only [↓bp, bq, br, seval, tbSeenLent, Term.flat_lent, Term.isv_lent, Term.fold_lent, Ended.flat_lent, Ended.isv_lent, Ended.fold_lent, isv_lents, flat_lents, isv_lentLims, flat_lentLims, *])
  all_goals rfl
theorem sameE1_pure (x y : Ended) (hx : x.reason.bulk ≤ 1000000000) (hy : y.reason.bulk ≤ 1000000000) : Pure Tryz.prog G 68 [x.enc, y.enc] (.bool (sameE x y)) := by
  have hp := same_pure G x.reason y.reason hx hy
  unfold sameE
  clear hx hy
  intro σ
  refine Tri.of_awp mixed Tryz.func68 rfl (by kernel_rfl) (by kernel_rfl) (by simp [Tryz.ntmps68]) Tryz.results68 ?_
  repeat' (first | refine xs ?_ ?_ <;> intros | ((first | refine xh ?_ | refine xi ?_); intro bx hbx; (try simp only [fb] at hbx)) | refine Pure.use (hp) ?_ | refine Pure.head (hp) ?_ | refine xj ?_ | ((with_reducible refine And.intro ?_ ?_); omega) | refine bo_buildSlice (d' := ⟨⟩) ?_ | refine xk (by kernel_rfl) ?_ | refine xf ?_ (by repeat' first | exact lr _ | assumption | refine ls ?_ ?_ | refine lt ?_ ?_ | simp only [*]; done | exact lf ‹_› (by simp only [*])) | simp -dsimp only [↓bp, bq, br, seval, tbSeenLent, *])
  all_goals (first | (simp only [sameE, *, Bool.and_true, Bool.true_and, Bool.and_false, Bool.false_and, Bool.or_true, Bool.true_or, Bool.or_false, Bool.false_or, Bool.not_true, Bool.not_false, if_true, if_false, Bool.and_self, Bool.or_self]; done) | (simp [sameE, *]; done) | (simp_all [sameE]; done))
def marksToE (k i : Nat) : List AV := (List.range i).map fun (i : Nat) => (mkE k (i : Int)).enc
theorem marksToE_succ (k i : Nat) : marksToE k (i + 1) = marksToE k i ++ [(mkE k (i : Int)).enc] := by simp [marksToE, List.range_succ]
theorem marksToE_len (k i : Nat) : (marksToE k i).length = i := by simp [marksToE]
def marksE : List AV := marksToE 1 12
def lentsE (l : List Ended) : AV := .sl .none (l.map Ended.lent) marksE
theorem isv_lentsE (l : List Ended) : isv (lentsE l) = true := rfl
theorem flat_lentsE (l : List Ended) : flat (lentsE l) = [lentsE l] := rfl
theorem lentsE_le (l : List Ended) : Le (lentsE l) (encE l) := Le.trans Le.spare (Le.sl (LeEs.map _ fun x _ => lentE_leE x))
theorem flatE_l {l : List Ended} : ∀ a, a ∈ l.map Ended.lent → (flat a).length = 8 := fun a ha => by
  obtain ⟨x, _, rfl⟩ := List.mem_map.1 ha
  rw [x.flat_lent]; rfl
theorem tlEN : aelt Tryz.prog 23 = some (44, 8, 112) := tf23.2.2.2.2.2.2
theorem tlEE : el Tryz.prog 23 = some 44 := tf23.2.2.2.1
set_option maxHeartbeats 1000000 in
theorem lentsE_pure (l : List Ended) (hl : l.length ≤ 1000000000) (hf : ∀ x, x ∈ l → Pure Tryz.prog G 46 [x.enc] x.lent) : Pure Tryz.prog G 22 [encE l] (lentsE l) := by
  refine Pure.of_le fun σ => ?_
  have hw0 : IntKind.i64.wrap ((l.length : Int) + 12) = l.length + 12 := wrap_nat (by omega) (by omega)
  refine Tri.of_awp mixed Tryz.func22 rfl (by kernel_rfl) (by kernel_rfl) (by simp [Tryz.ntmps22]) Tryz.results22 ?_
  simp -dsimp only [↓bp, bq, br, seval, tbSeenLent, hw0]
  refine make_buf tlEN (by omega) (by omega) (AS.le.refl σ) (fun v σ1 hB1 hx1 => ?_)
  simp -dsimp only [↓bp, bq, br, seval, tbSeenLent]
  refine loop_intro (fun n e σ' => ∃ (i : Nat) (v : AV), i ≤ l.length ∧ n = l.length - i ∧ e 4 = .int .i64 i ∧ e 3 = v ∧ Buf 8 σ σ' v ((l.take i).map Ended.lent)) l.length
    ⟨0, v, by omega, by omega, by first | (simp -dsimp only [↓bp, bq, br, seval, tbSeenLent]; done) | (simp -dsimp only [↓bp, bq, br, seval, tbSeenLent]; try rfl), by first | (simp -dsimp only [↓bp, bq, br, seval, tbSeenLent]; done) | (simp -dsimp only [↓bp, bq, br, seval, tbSeenLent]; try rfl), by simpa using hB1⟩ ?_
  clear hB1 hx1
  rintro n e1 σ2 ⟨i, v2, hi, rfl, h4, h3, hB2⟩
  simp -dsimp only [↓bp, bq, br, seval, tbSeenLent] at h4 h3
  by_cases hlt : (i : Int) < l.length
  · obtain ⟨k, hk⟩ : ∃ k, l[i]? = some k := ⟨_, List.getElem?_eq_getElem (by omega)⟩
    have hp := hf k (List.mem_of_getElem? hk)
    have hlt' := eq_true hlt
    have hwi : IntKind.i64.wrap ((i : Int) + 1) = ((i + 1 : Nat) : Int) := by rw [wrap_nat (by omega) (by omega)]; rfl
    have hlen : ((l.take i).map Ended.lent).length ≤ 1000000000 := by rw [List.length_map, List.length_take]; omega
    clear hf hw0
    repeat' (first | refine xs ?_ ?_ <;> intros | ((first | refine xh ?_ | refine xi ?_); intro bx hbx; (try simp only [fb] at hbx)) | refine Pure.use (hp) ?_ | refine Pure.head (hp) ?_ | (refine build_one tlEN (Ended.isv_lent k) (by rw [k.flat_lent]; rfl) (by omega) ?_) | (refine app_buf (ys := [k.lent]) (hB2.newBox (by first | assumption | (simp only [*]; done)) _) tlEN (asrc_sl tlEE) (fun a ha => by simp at ha; subst ha; rw [k.flat_lent]; rfl) (by simp only [List.length_cons, List.length_nil]; omega) (fun v3 σ3 hB4 hx4 => ?_)) | (refine app_buf (ys := [k.lent]) hB2 tlEN (asrc_sl tlEE) (fun a ha => by simp at ha; subst ha; rw [k.flat_lent]; rfl) (by simp only [List.length_cons, List.length_nil]; omega) (fun v3 σ3 hB4 hx4 => ?_)) | refine xj ?_ | ((with_reducible refine And.intro ?_ ?_); omega) | refine bo_buildSlice (d' := ⟨⟩) ?_ | refine xk (by kernel_rfl) ?_ | refine xf ?_ (by repeat' first | exact lr _ | assumption | refine ls ?_ ?_ | refine lt ?_ ?_ | simp only [*]; done | exact lf ‹_› (by simp only [*])) | simp -dsimp only [↓bp, bq, br, seval, tbSeenLent, Ended.flat_lent, Ended.isv_lent, Ended.fold_lent, *])
    all_goals exact ⟨l.length - (i + 1), by omega, i + 1, v3, by omega, rfl, rfl, rfl, by rw [take_succ_get _ _ _ hk, List.map_append]; exact hB4⟩
  · have : i = l.length := by omega
    subst this
    have hlt' := eq_false (Int.lt_irrefl (l.length : Int))
    rw [List.take_length] at hB2
    clear hf hlt hi
    repeat' (first | refine xs ?_ ?_ <;> intros | ((first | refine xh ?_ | refine xi ?_); intro bx hbx; (try simp only [fb] at hbx)) | refine xj ?_ | ((with_reducible refine And.intro ?_ ?_); omega) | refine bo_buildSlice (d' := ⟨⟩) ?_ | refine xk (by kernel_rfl) ?_ | refine xf ?_ (by repeat' first | exact lr _ | assumption | refine ls ?_ ?_ | refine lt ?_ ?_ | simp only [*]; done | exact lf ‹_› (by simp only [*])) | simp -dsimp only [↓bp, bq, br, seval, tbSeenLent, *])
    refine loop_intro (fun n e σ' => ∃ (i : Nat) (v : AV), i ≤ 12 ∧ n = 12 - i ∧ e 6 = .int .i64 i ∧ e 3 = v ∧ Buf 8 σ σ' v (l.map Ended.lent ++ marksToE 1 i)) 12
      ⟨0, v2, by omega, by omega, by first | (simp -dsimp only [↓bp, bq, br, seval, tbSeenLent]; done) | (simp -dsimp only [↓bp, bq, br, seval, tbSeenLent]; try rfl), by first | (simp -dsimp only [↓bp, bq, br, seval, tbSeenLent, h3]; done) | (simp -dsimp only [↓bp, bq, br, seval, tbSeenLent, h3]; try rfl), by simpa [marksToE] using hB2⟩ ?_
    rintro n e2 σ3 ⟨i, v3, hi2, rfl, h6, h3', hB3⟩
    simp -dsimp only [↓bp, bq, br, seval, tbSeenLent] at h6 h3'
    by_cases hlt : (i : Int) < 12
    · have hp := mkE_pure G 1 i
      have hlt2 := eq_true hlt
      have hwi : IntKind.i64.wrap ((i : Int) + 1) = ((i + 1 : Nat) : Int) := by rw [wrap_nat (by omega) (by omega)]; rfl
      have hlen : (l.map Ended.lent ++ marksToE 1 i).length ≤ 1000000012 := by rw [List.length_append, List.length_map, marksToE_len]; omega
      clear hB2
      repeat' (first | refine xs ?_ ?_ <;> intros | ((first | refine xh ?_ | refine xi ?_); intro bx hbx; (try simp only [fb] at hbx)) | refine Pure.use (hp) ?_ | refine Pure.head (hp) ?_ | (refine build_one tlEN (Ended.isv_enc _) (by rw [Ended.flat_enc]; rfl) (by omega) ?_) | (refine app_buf (ys := [(mkE 1 (i : Int)).enc]) hB3 tlEN (asrc_sl tlEE) (fun a ha => by simp at ha; subst ha; rw [Ended.flat_enc]; rfl) (by simp only [List.length_cons, List.length_nil]; omega) (fun v4 σ4 hB4 hx4 => ?_)) | refine xj ?_ | ((with_reducible refine And.intro ?_ ?_); omega) | refine bo_buildSlice (d' := ⟨⟩) ?_ | refine xk (by kernel_rfl) ?_ | refine xf ?_ (by repeat' first | exact lr _ | assumption | refine ls ?_ ?_ | refine lt ?_ ?_ | simp only [*]; done | exact lf ‹_› (by simp only [*])) | simp -dsimp only [↓bp, bq, br, seval, tbSeenLent, *])
      all_goals exact ⟨12 - (i + 1), by omega, i + 1, v4, by omega, rfl, rfl, rfl, by rw [marksToE_succ, ← List.append_assoc]; exact hB4⟩
    · have : i = 12 := by omega
      subst this
      have hlt2 : (((12 : Nat) : Int) < 12) = False := by simp
      clear hB2
      rcases hB3.isNil with ⟨hn, _⟩ | ⟨b, hb⟩
      · have := congrArg List.length hn; simp [marksToE_len] at this
      · subst hb
        repeat' (first | refine xs ?_ ?_ <;> intros | ((first | refine xh ?_ | refine xi ?_); intro bx hbx; (try simp only [fb] at hbx)) | refine xj ?_ | ((with_reducible refine And.intro ?_ ?_); omega) | refine bo_buildSlice (d' := ⟨⟩) ?_ | refine xk (by kernel_rfl) ?_ | refine xf ?_ (by repeat' first | exact lr _ | assumption | refine ls ?_ ?_ | refine lt ?_ ?_ | simp only [*]; done | exact lf ‹_› (by simp only [*])) | simp -dsimp only [↓bp, bq, br, seval, tbSeenLent, *])
        refine piece (l := 0) (h := l.length) tlEE tf44.1 rfl (by simp [abnd]) (by omega) (by simp) (fun a ha => ?_) (fun g' => ?_)
        · rw [List.append_nil] at ha
          cases hB3 with
          | own _ _ _ _ _ hx => exact hx a ha
        · simp -dsimp only [↓bp, bq, br, seval, tbSeenLent, h6, h3', h4]
          refine finish_le ?_ hB3.le
          have e1 : (l.map Ended.lent ++ marksToE 1 12).take l.length = l.map Ended.lent := by
            rw [List.take_append_of_le_length (by simp), List.take_of_length_le (by simp)]
          have e2 : (l.map Ended.lent ++ marksToE 1 12).drop l.length = marksE := by
            rw [List.drop_append_of_le_length (by simp), List.drop_eq_nil_of_le (by simp)]; rfl
          rw [e1, e2]
          exact Le.gh
theorem sl_lentsE {t : TypeId} (l : List Ended) (h : Int) (hh : h = l.length + 12) (ht : t = 23) {K : AV → Prop} {d : Dum K} (hK : ∀ g, K (.sl g (l.map Ended.lent ++ marksE) [])) : bo (aslice Tryz.prog t (lentsE l) none (some (.int .i64 h))) K d := by
  subst hh ht
  refine piece (l := 0) (h := l.length + 12) tlEE tf44.1 rfl (by simp [abnd]; omega) (by omega) (by simp [marksE, marksToE_len]) (fun a ha => ?_) (fun g' => ?_)
  · rcases List.mem_append.1 ha with ha | ha
    · exact flatE_l a ha
    · obtain ⟨i, _, rfl⟩ := List.mem_map.1 ha
      rw [Ended.flat_enc]; rfl
  · have e1 : ((l.map Ended.lent ++ marksE).take (l.length + 12)).drop 0 = l.map Ended.lent ++ marksE := by
      rw [List.drop_zero, List.take_of_length_le (by simp [marksE, marksToE_len])]
    have e2 : (l.map Ended.lent ++ marksE).drop (l.length + 12) = [] := List.drop_eq_nil_of_le (by simp [marksE, marksToE_len])
    rw [e1, e2]
    have hml : marksE.length = 12 := by simp [marksE, marksToE_len]
    unfold slim
    split
    · rename_i heq _
      have h2 : marksE = [] := by injection heq
      rw [h2] at hml
      cases hml
    · exact hK g'
theorem sl_lentsE_len {P : Program} {t : TypeId} (l : List Ended) : ablt P .len #[t] [lentsE l] = if (el P t).isSome then some (.int .i64 l.length) else none := by
  simp [lentsE, l_sl]
set_option maxHeartbeats 1000000 in
theorem keptsE_pure (l : List Ended) (hl : l.length ≤ 1000000000) (hf : ∀ x, x ∈ l → Pure Tryz.prog G 67 [x.lent, x.enc] (.bool true)) (hsm : ∀ i : Int, Pure Tryz.prog G 68 [(mkE 1 i).enc, (mkE 1 i).enc] (.bool true)) : Pure Tryz.prog G 39 [lentsE l, encE l] (.bool true) := by
  intro σ
  have hw0 : IntKind.i64.wrap ((l.length : Int) + 12) = l.length + 12 := wrap_nat (by omega) (by omega)
  have hml : marksE.length = 12 := by simp [marksE, marksToE_len]
  refine Tri.of_awp mixed Tryz.func39 rfl (by kernel_rfl) (by kernel_rfl) (by simp [Tryz.ntmps39]) Tryz.results39 ?_
  simp -dsimp only [↓bp, bq, br, seval, tbSeenLent, hw0, sl_lentsE_len]
  refine sl_lentsE l _ rfl rfl fun g => ?_
  simp -dsimp only [↓bp, bq, br, seval, tbSeenLent]
  refine loop_intro (fun n e σ' => ∃ i : Nat, i ≤ ((l.map Ended.lent ++ marksE)).length ∧ n = ((l.map Ended.lent ++ marksE)).length - i ∧ e 6 = .int .i64 i ∧ σ.le σ') ((l.map Ended.lent ++ marksE)).length
      ⟨0, by omega, by omega, by simp -dsimp only [↓bp, bq, br, seval, tbSeenLent]; first | done | rfl, AS.le.refl σ⟩ ?_
  rintro n v σ' ⟨i, hi, rfl, h6, hle⟩
  simp -dsimp only [↓bp, bq, br, seval, tbSeenLent] at h6
  simp -dsimp only [↓bp, bq, br, seval, tbSeenLent, h6]
  refine condW_dec (fun hlt => ?_) (fun hge => ?_)
  · have hl3 : i < l.length + 12 := by rw [List.length_append, List.length_map, hml] at hlt; omega
    by_cases hi2 : (i : Int) < l.length
    · obtain ⟨k, hk⟩ : ∃ k, l[i]? = some k := ⟨_, List.getElem?_eq_getElem (by omega)⟩
      have hp := hf k (List.mem_of_getElem? hk)
      have hx : (l.map Ended.lent ++ marksE)[i]? = some k.lent := by rw [List.getElem?_append_left (by simp; omega), List.getElem?_map, hk]; rfl
      have hge : ((l.length : Int) ≤ i) = False := eq_false (by omega)
      have hi2' := eq_true hi2
      clear hi hlt hf hsm hi2
      repeat' (first | refine xs ?_ ?_ <;> intros | ((first | refine xh ?_ | refine xi ?_); intro bx hbx; (try simp only [fb] at hbx)) | refine Pure.use (hp) ?_ | refine Pure.head (hp) ?_ | refine xj ?_ | ((with_reducible refine And.intro ?_ ?_); omega) | refine bo_buildSlice (d' := ⟨⟩) ?_ | refine xk (by kernel_rfl) ?_ | refine xf ?_ (by repeat' first | exact lr _ | assumption | refine ls ?_ ?_ | refine lt ?_ ?_ | simp only [*]; done | exact lf ‹_› (by simp only [*])) | simp -dsimp only [↓bp, bq, br, seval, tbSeenLent, Ended.flat_lent, Ended.isv_lent, Ended.fold_lent, isv_lentsE, flat_lentsE, sl_lentsE_len, *])
      all_goals (have hl2 : (l.map Ended.lent ++ marksE).length = l.length + 12 := by simp [hml])
      all_goals exact ⟨(l.map Ended.lent ++ marksE).length - (i + 1), by omega, i + 1, by omega, rfl, by rw [wrap_nat (by omega) (by omega)]; rfl⟩
    · have hx : (l.map Ended.lent ++ marksE)[i]? = some (mkE 1 ((i - l.length : Nat) : Int)).enc := by
        rw [List.getElem?_append_right (by simp; omega), List.length_map]
        have : i - l.length < 12 := by omega
        simp [marksE, marksToE, this]
      have hge : ((l.length : Int) ≤ i) = True := eq_true (by omega)
      have hi2' := eq_false hi2
      have hw1 : IntKind.i64.wrap ((i : Int) - l.length) = ((i - l.length : Nat) : Int) := by rw [wrap_nat (by omega) (by omega)]; omega
      have hp := mkE_pure G 1 ((i - l.length : Nat) : Int)
      have hq := hsm ((i - l.length : Nat) : Int)
      clear hi hlt hf hsm hi2
      repeat' (first | refine xs ?_ ?_ <;> intros | ((first | refine xh ?_ | refine xi ?_); intro bx hbx; (try simp only [fb] at hbx)) | refine Pure.use (hp) ?_ | refine Pure.head (hp) ?_ | refine Pure.use (hq) ?_ | refine Pure.head (hq) ?_ | refine xj ?_ | ((with_reducible refine And.intro ?_ ?_); omega) | refine bo_buildSlice (d' := ⟨⟩) ?_ | refine xk (by kernel_rfl) ?_ | refine xf ?_ (by repeat' first | exact lr _ | assumption | refine ls ?_ ?_ | refine lt ?_ ?_ | simp only [*]; done | exact lf ‹_› (by simp only [*])) | simp -dsimp only [↓bp, bq, br, seval, tbSeenLent, Ended.flat_lent, Ended.isv_lent, Ended.fold_lent, isv_lentsE, flat_lentsE, sl_lentsE_len, *])
      all_goals (have hl2 : (l.map Ended.lent ++ marksE).length = l.length + 12 := by simp [hml])
      all_goals exact ⟨(l.map Ended.lent ++ marksE).length - (i + 1), by omega, i + 1, by omega, rfl, by rw [wrap_nat (by omega) (by omega)]; rfl⟩
  · have : i = (l.map Ended.lent ++ marksE).length := by omega
    subst this
    clear hi hge hf hsm
    repeat' (first | refine xs ?_ ?_ <;> intros | ((first | refine xh ?_ | refine xi ?_); intro bx hbx; (try simp only [fb] at hbx)) | refine xj ?_ | ((with_reducible refine And.intro ?_ ?_); omega) | refine bo_buildSlice (d' := ⟨⟩) ?_ | refine xk (by kernel_rfl) ?_ | refine xf ?_ (by repeat' first | exact lr _ | assumption | refine ls ?_ ?_ | refine lt ?_ ?_ | simp only [*]; done | exact lf ‹_› (by simp only [*])) | simp -dsimp only [↓bp, bq, br, seval, tbSeenLent, *])
    all_goals rfl
theorem keptE_pure (e : Ended) (hb : e.reason.bulk ≤ 1000000000) : Pure Tryz.prog G 67 [e.lent, e.enc] (.bool true) := by
  have hs := (sameE1_pure G e e hb hb).lessArgs (args := [e.lent, e.enc]) (.cons (lentE_le e) (.cons (Le.refl _) .nil))
  rw [(sameE_iff e e).2 rfl] at hs
  have hk := kept_pure G e.reason hb
  clear hb
  intro σ
  refine Tri.of_awp mixed Tryz.func67 rfl (by kernel_rfl) (by kernel_rfl) (by simp [Tryz.ntmps67]) Tryz.results67 ?_
  repeat' (first | refine xs ?_ ?_ <;> intros | ((first | refine xh ?_ | refine xi ?_); intro bx hbx; (try simp only [fb] at hbx)) | refine Pure.use (hs) ?_ | refine Pure.head (hs) ?_ | refine Pure.use (hk) ?_ | refine Pure.head (hk) ?_ | refine xj ?_ | ((with_reducible refine And.intro ?_ ?_); omega) | refine bo_buildSlice (d' := ⟨⟩) ?_ | refine xk (by kernel_rfl) ?_ | refine xf ?_ (by repeat' first | exact lr _ | assumption | refine ls ?_ ?_ | refine lt ?_ ?_ | simp only [*]; done | exact lf ‹_› (by simp only [*])) | simp -dsimp only [↓bp, bq, br, seval, tbSeenLent, Term.flat_lent, Term.isv_lent, Term.fold_lent, Ended.flat_lent, Ended.isv_lent, Ended.fold_lent, isv_lents, flat_lents, isv_lentLims, flat_lentLims, *])
  all_goals rfl
end Go.Proofs.YtphnoaihojccbaaGreatDoor
