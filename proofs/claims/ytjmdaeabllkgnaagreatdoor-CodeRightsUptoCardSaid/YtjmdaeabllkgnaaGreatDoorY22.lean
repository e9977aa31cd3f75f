/- A law's call: from what is said of abstract values to the row's statement. -/
import Derived.Test.YtjmdaeabllkgnaaGreatDoorY21
import Derived.Below
import Derived.ChangeSame
import Derived.DataShut
import Derived.HandedShaped
set_option linter.unusedVariables false
set_option linter.unusedSimpArgs false
namespace Go.Av
open Go Go.RowKit Go.WideShapes Go.ChangeShapes
variable {H : Type}
section shut
variable {enc : TypeId × Value -> H} {P : Program} {w : World} {held : Bool} {S : List TypeId}
theorem trod_sp (hS : closedT P S = true) {sp : Nat -> Bool} : ∀ (fuel : Nat) (t : TypeId) (cs : List Value) (x : DataW H × List MemPlace), t ∈ S ->
  DataW.trod enc P w 0 (fun _ => true) held fuel t cs = some x -> (∀ p ∈ x.2, sp p.block = true) -> DataW.trod enc P w 0 sp held fuel t cs = some x := by
 intro fuel
 induction fuel with
 | zero => intro t cs x _ h; simp [DataW.trod] at h
 | succ n ih =>
  intro t cs x htS h hsp
  have hc := List.all_eq_true.1 hS t htS
  split at hc
  ·rename_i ht
   obtain ⟨b, rfl, rfl⟩ := DataW.trod_bool ht h
   simp [DataW.trod, ht]
  ·rename_i k ht
   obtain ⟨m, rfl, rfl, hw⟩ := DataW.trod_int ht h
   simp [DataW.trod, ht, hw]
  ·rename_i ht
   obtain ⟨s, rfl, rfl, hw⟩ := DataW.trod_string ht h
   simp [DataW.trod, ht, hw]
  ·rename_i e ht
   simp only [Bool.and_eq_true, decide_eq_true_eq] at hc
   have heS : e ∈ S := by simpa using hc.1
   rcases DataW.trod_slice ht h with ⟨rfl, rfl⟩ | ⟨a, len, cap, elems, rest, m, hm, rfl, rfl, hb0, hlc, hml, hlen, hel, hspr, _⟩
   ·simp [DataW.trod, ht]
   ·have hmn : m = n := by omega
    subst hmn
    obtain ⟨hrl, hr⟩ := hspr rfl
    have hpe : ∀ y, y ∈ elems ++ rest -> ∀ p ∈ y.2, sp p.block = true := fun y hy p hp => hsp p (by
     simp only [List.mem_append, List.mem_flatMap]
     exact .inr ⟨y, by simpa using hy, hp⟩)
    have step : ∀ (i : Nat) (y : DataW H × List MemPlace), y ∈ elems ++ rest -> ((w.cells? 0 (a.add (i * P.cellsOf e)) (P.cellsOf e)).bind (DataW.trod enc P w 0 (fun _ => true) held m e)) = some y ->
      ((w.cells? 0 (a.add (i * P.cellsOf e)) (P.cellsOf e)).bind (DataW.trod enc P w 0 sp held m e)) = some y := fun i y hy hh => by
     rw [Option.bind_eq_some_iff] at hh ⊢
     obtain ⟨cs, g1, g2⟩ := hh
     exact ⟨cs, g1, ih e cs y heS g2 (hpe y hy)⟩
    have h1' : (List.range len).mapM (fun i => (w.cells? 0 (a.add (i * P.cellsOf e)) (P.cellsOf e)).bind (DataW.trod enc P w 0 sp held m e)) = some elems :=
     mapM_some_of_get _ _ (by simp [hlen]) (fun i x hx => by
      obtain ⟨hi, rfl⟩ := List.getElem?_eq_some_iff.1 hx
      simp only [List.length_range] at hi
      rw [List.getElem_range, List.getElem?_eq_getElem (by omega)]
      refine step i _ (List.mem_append_left _ (List.getElem_mem _)) ?_
      rw [hel i hi, List.getElem?_eq_getElem (by omega)])
    have h2' : (List.range (cap - len)).mapM (fun j => (w.cells? 0 (a.add ((len + j) * P.cellsOf e)) (P.cellsOf e)).bind (DataW.trod enc P w 0 sp held m e)) = some rest :=
     mapM_some_of_get _ _ (by simp [hrl]) (fun i x hx => by
      obtain ⟨hi, rfl⟩ := List.getElem?_eq_some_iff.1 hx
      simp only [List.length_range] at hi
      rw [List.getElem_range, List.getElem?_eq_getElem (by omega)]
      refine step (len + i) _ (List.mem_append_right _ (List.getElem_mem _)) ?_
      rw [hr i hi, List.getElem?_eq_getElem (by omega)])
    rw [DataW.trod_step]
    unfold DataW.trodStep
    simp only [ht]
    rw [if_pos ⟨hb0, hlc, hml⟩, h1']
    simp only [Option.bind_some]
    by_cases hz : cap - len = 0
    ·have : rest = [] := List.eq_nil_of_length_eq_zero (by omega)
     subst this
     rw [hz]
     split <;> simp
    ·have hb : sp a.block = true := by
      refine hsp (.cell a.block a.off) ?_
      simp only [List.mem_append]
      refine .inl (MemPlace.mem_row.2 ⟨0, ?_, rfl⟩)
      have hp : 0 < P.cellsOf e := hc.2
      exact Nat.mul_pos (by omega) hp
     rw [if_pos hb, h2']
     simp
  ·rename_i fs ht
   simp only [Bool.and_eq_true] at hc
   have hfS : ∀ f, f ∈ fs.toList -> f.type ∈ S := fun f hf => by have := List.all_eq_true.1 hc.1 f hf; simpa using this
   obtain ⟨xs, m, hm, rfl, hcl, hxl, hx⟩ := DataW.trod_struct ht h
   have hmn : m = n := by omega
   subst hmn
   have h1' : fs.toList.mapM (fun f => DataW.trod enc P w 0 sp held m f.type ((cs.drop f.offset).take (P.cellsOf f.type))) = some xs :=
    mapM_some_of_get _ _ (by simp [hxl]) (fun i f hf => by
     have hfa : fs[i]? = some f := by simpa using hf
     have h2 := hx i f hfa
     have hi : i < xs.length := by have := (Array.getElem?_eq_some_iff.1 hfa).1; omega
     rw [List.getElem?_eq_getElem hi] at h2 ⊢
     exact ih f.type _ _ (hfS f (by rw [Array.mem_toList_iff]; exact Array.mem_of_getElem? hfa)) h2 fun p hp => hsp p (List.mem_flatMap.2 ⟨_, List.getElem_mem hi, hp⟩))
   rw [DataW.trod_step]
   unfold DataW.trodStep
   simp only [ht]
   rw [if_pos hcl, h1']
   rfl
  ·rename_i q e ht
   simp only [Bool.and_eq_true, decide_eq_true_eq] at hc
   have heS : e ∈ S := by simpa using hc.1
   obtain ⟨xs, m, hm, rfl, hcl, hxl, hx⟩ := DataW.trod_array ht h
   have hmn : m = n := by omega
   subst hmn
   have h1' : (List.range q).mapM (fun i => DataW.trod enc P w 0 sp held m e ((cs.drop (i * P.cellsOf e)).take (P.cellsOf e))) = some xs :=
    mapM_some_of_get _ _ (by simp [hxl]) (fun i f hf => by
     obtain ⟨hi, rfl⟩ := List.getElem?_eq_some_iff.1 hf
     simp only [List.length_range] at hi
     rw [List.getElem_range]
     have h2 := hx i hi
     rw [List.getElem?_eq_getElem (by omega)] at h2 ⊢
     exact ih e _ _ heS h2 fun p hp => hsp p (List.mem_flatMap.2 ⟨_, List.getElem_mem (by omega), hp⟩))
   rw [DataW.trod_step]
   unfold DataW.trodStep
   simp only [ht]
   rw [if_pos hcl, h1']
   rfl
  ·cases hc
theorem shut_args (hS : closedT P S = true) {w' : World} {sp : Nat -> Bool} (hb : Below w.heap.size w w') : ∀ (ts : List TypeId) (vs : List Value) (ds : List (DataW H)) (ps : List MemPlace), (∀ t, t ∈ ts -> t ∈ S) ->
  DataW.TrodAll enc P w 0 (fun _ => true) held ts vs ds ps -> (∀ p ∈ ps, p.block < w.heap.size) -> (∀ p ∈ ps, sp p.block = true) -> DataW.TrodAll enc P w' 0 sp held ts vs ds ps
 | [], [], [], ps, _, h, _, _ => h
 | t :: ts, v :: vs, d :: ds, ps, hts, ⟨p, q, ⟨fuel, h1⟩, h2, h3⟩, hlt, hsp => by
  subst h3
  have hsame : ∀ x ∈ p, w.sameAt w' x := fun x hx => by
   have hl := hlt x (by simp [hx])
   cases x with
   | cell b o => exact hb.cell (p := ⟨b, o, none⟩) hl
   | map b => exact hb.block b hl
  have h4 := DataW.trod_carry fuel t _ _ h1 hsame
  exact ⟨p, q, ⟨fuel, trod_sp hS fuel t _ _ (hts t (by simp)) h4 fun x hx => hsp x (by simp [hx])⟩,
   shut_args hS hb ts vs ds q (fun t ht => hts t (by simp [ht])) h2 (fun x hx => hlt x (by simp [hx])) (fun x hx => hsp x (by simp [hx])), rfl⟩
 | [], _ :: _, _, _, _, h, _, _ => h.elim
 | [], [], _ :: _, _, _, h, _, _ => h.elim
 | _ :: _, [], _, _, _, h, _, _ => h.elim
 | _ :: _, _ :: _, [], _, _, h, _, _ => h.elim
end shut
section typed
variable {P : Program} {n : Nat} {t : TypeId} {d : DataW H}
theorem tyW_bool (h : tyW P n t d) (ht : P.underlying t = some .bool) : ∃ b, d = .lit (.bool b) := by
 cases n with
 | zero => exact h.elim
 | succ n => simp only [tyW, ht] at h; exact h
theorem tyW_int {k : IntKind} (h : tyW P n t d) (ht : P.underlying t = some (.int k)) : ∃ m, d = .lit (.int k m) /\ (Lit.int k m).wf = true := by
 cases n with
 | zero => exact h.elim
 | succ n => simp only [tyW, ht] at h; exact h
theorem tyW_str (h : tyW P n t d) (ht : P.underlying t = some .string) : ∃ s, d = .lit (.string s) /\ s.length <= maxLen := by
 cases n with
 | zero => exact h.elim
 | succ n => simp only [tyW, ht] at h; exact h
theorem tyW_slice {e : TypeId} (h : tyW P n t d) (ht : P.underlying t = some (.slice e)) : ∃ xs sp m, (d = .nil /\ xs = [] \/ d = .slice xs sp) /\ n = m + 1 /\ ∀ x, x ∈ xs -> tyW P m e x := by
 cases n with
 | zero => exact h.elim
 | succ n =>
  simp only [tyW, ht] at h
  rcases h with h | ⟨xs, sp, h1, h2⟩
  ·exact ⟨[], [], n, .inl ⟨h, rfl⟩, rfl, fun x hx => by cases hx⟩
  ·exact ⟨xs, sp, n, .inr h1, rfl, h2⟩
theorem tyW_struct {fs : Array Field} (h : tyW P n t d) (ht : P.underlying t = some (.struct fs)) : ∃ ds m, d = .agg ds /\ n = m + 1 /\ ds.length = fs.size /\ ∀ (i : Nat) (f : Field) x, fs[i]? = some f -> ds[i]? = some x -> tyW P m f.type x := by
 cases n with
 | zero => exact h.elim
 | succ n =>
  simp only [tyW, ht] at h
  obtain ⟨ds, h1, h2, h3⟩ := h
  exact ⟨ds, n, h1, rfl, h2, h3⟩
theorem slice_dec {P : Program} {α : Type} {e : TypeId} {enc : α -> AV} {good : DataW H -> α -> Prop} {m : Nat} (hd : ∀ x, tyW P m e x -> ∃ a, avW x = enc a /\ good x a) : ∀ (xs : List (DataW H)), (∀ x, x ∈ xs -> tyW P m e x) ->
  ∃ l : List α, avWs xs = l.map enc /\ l.length = xs.length /\ ∀ (i : Nat) x a, xs[i]? = some x -> l[i]? = some a -> good x a
 | [], _ => ⟨[], by simp [avWs], rfl, fun i x a h => by simp at h⟩
 | x :: xs, h => by
  obtain ⟨a, h1, h2⟩ := hd x (h x (by simp))
  obtain ⟨l, h3, h4, h5⟩ := slice_dec hd xs fun y hy => h y (by simp [hy])
  refine ⟨a :: l, by simp [avWs, h1, h3], by simp [h4], fun i y b hy hb => ?_⟩
  cases i with
  | zero => simp at hy hb; subst hy hb; exact h2
  | succ i => exact h5 i y b (by simpa using hy) (by simpa using hb)
end typed
section entry
variable {P : Program} {G : Nat -> AV} {W : World}
def entryK (W : World) : Ctx := { imm := fun b o => W.cell? ⟨b, o, none⟩, row := fun _ => none, base := W.heap.size, W := W }
def entryS : AS := { box := fun _ => none, tip := fun _ => none, ty := fun _ => none }
theorem Rel.entry (hG : ∀ g, VR (entryK W) (G g) (.pointer (some ⟨g, 0, none⟩))) : Rel G (entryK W) entryS W :=
 ⟨fun _ _ _ h => h, fun _ _ _ _ h => (by cases h), fun _ _ h => (by cases h), fun _ _ _ h => (by cases h), fun _ _ _ h => (by cases h), hG, Below.refl _ _, Nat.le_refl _⟩
theorem laidVars_mem {P : Program} {w : World} {n : String} {d : DataW Unit} : ∀ (laid : List (String × DataW Unit)) (ps : List MemPlace), DataW.LaidVars P w laid ps -> (n, d) ∈ laid ->
  ∃ g t cs fuel p, P.globalNamed n = some g /\ (P.globals[g]?).map (·.type) = some t /\ w.var? P n = some cs /\ DataW.trod (fun _ => ()) P w 0 (fun _ => true) false fuel t cs.toList = some (d, p)
 | [], _, _, h => by cases h
 | (m, e) :: r, ps, ⟨g, t, cs, fuel, p, q, h1, h2, h3, h4, h5, _⟩, h => by
  rcases List.mem_cons.1 h with h | h
  ·cases h; exact ⟨g, t, cs, fuel, p, h1, h2, h3, h4⟩
  ·exact laidVars_mem r q h5 h
theorem laid_glob {S : List TypeId} (hS : closedT P S = true) {laid : List (String × DataW Unit)} (hL : laidMet P laid W) {n : String} {d : DataW Unit} (hm : (n, d) ∈ laid) {g : Nat} {t : TypeId} (hg : P.globalNamed n = some g)
  (ht : (P.globals[g]?).map (·.type) = some t) (htS : t ∈ S) {cs : List AV} (hcs : flat (avW d) = cs) : VR (entryK W) (.rp cs) (.pointer (some ⟨g, 0, none⟩)) := by
 obtain ⟨ps, h1, _⟩ := hL
 obtain ⟨g', t', vs, fuel, p, hg', ht', hvar, hd⟩ := laidVars_mem laid ps h1 hm
 obtain rfl := Option.some.inj (hg.symm.trans hg')
 obtain rfl := Option.some.inj (ht.symm.trans ht')
 obtain ⟨_, h2, _⟩ := read_all (K := entryK W) hS (fun b o v h => h) fuel t _ _ htS hd
 simp only [hcs] at h2
 have hsz := h2.size
 refine .rp cs g 0 (fun j => vs.toList.getD j Go.undef) h2.one (fun j hj => ?_) h2.at_
 have h3 := World.var?_cell hg hvar j
 show W.cell? ⟨g, 0 + j, none⟩ = _
 have hj2 : j < vs.toList.length := by omega
 have hj3 : j < vs.size := by simpa using hj2
 rw [Nat.zero_add, h3]
 simp [hj3]
theorem Pure.calls {f : FuncId} {args : List AV} {vals : List Value} {b : Bool} (h : Pure P G f args (.bool b)) (hG : ∀ g, VR (entryK W) (G g) (.pointer (some ⟨g, 0, none⟩))) (hv : VRl (entryK W) args vals) :
  Calls P f vals.toArray W fun e w' => e = .returned (.bool b) /\ Below W.heap.size W w' := by
 refine ((h entryS).2 (entryK W) W vals (Rel.entry hG) hv).mono ?_
 rintro e w' ⟨v, r, σ', K', rfl, ⟨rfl, rfl⟩, hvr, hrel, hle⟩
 rw [VR.bool_iff] at hvr
 subst hvr
 have hb := hrel.below
 rw [hle.base, hle.W] at hb
 exact ⟨rfl, hb⟩
end entry
theorem law_post {t0 : TypeId} {enc : TypeId × Value -> H} {P : Program} {f : Func} {s : ChangeSpec} {W W' : World} {args : Array Value} {ds gs : List (DataW H)} {before : List MemPlace} {S : List TypeId} (hS : closedT P S = true) (hts : ∀ t, t ∈ f.params.toList -> t ∈ S)
  (hvars : s.vars = []) (hres : f.resultTypes = #[t0]) (ht0 : P.underlying t0 = some .bool)
  (hfn : s.fn H (ds ++ gs) = { results := [.lit (.bool true)], args := ds })
  (hW : DataW.Whole enc P f.params.toList s.vars false W args.toList ds gs before) (hb : Below W.heap.size W W') :
  s.post enc P f false true false false W args (.bool true) W' := by
 have hW' := hW
 obtain ⟨p, q, hA, hV, rfl, hfz, hnd⟩ := hW
 rw [hvars] at hV
 obtain ⟨hgs, rfl⟩ := trodVars_none hV
 rw [List.append_nil] at hW'
 have hA' : DataW.TrodAll enc P W 0 (fun _ => true) true f.params.toList args.toList ds p := hA
 have hlt : ∀ x ∈ p, x.block < W.heap.size := fun x hx => hA'.lt x hx
 have inW : ∀ x ∈ p, decide (x.block < W.heap.size) = true := fun x hx => by simpa using hlt x hx
 have results : ∀ (b : Nat) (sp : Nat -> Bool) (hd : Bool), DataW.TrodAll enc P W' b sp hd f.resultTypes.toList ((Value.bool true).resultList f.resultTypes.size) (s.fn H (ds ++ gs)).results [] := fun b sp hd => by
  rw [hfn, hres]; exact trodAll_cons_mk (shut_bool ht0 _) trodAll_mk0
 have arguments : ∀ sp : Nat -> Bool, (∀ x ∈ p, sp x.block = true) -> DataW.TrodAll enc P W' 0 sp true f.params.toList args.toList (s.fn H (ds ++ gs)).args p := fun sp hsp => by
  rw [hfn]; exact shut_args hS hb _ _ _ _ hts hA' hlt hsp
 have variables_ : ∀ sp : Nat -> Bool, DataW.TrodVars enc P W' sp s.vars (s.fn H (ds ++ gs)).vars [] := fun sp => by
  rw [hfn, hvars]; exact rfl
 refine ⟨ds, gs, p, [], p, [], by simpa using hW', results _ _ _, arguments _ inW, variables_ _, World.keptBut_mono (fun x hx => hx.elim) (hb.frame fun _ => False), fun _ => ?_⟩
 refine ⟨?_, _, _, p, ⟨p, [], trodAll_append (arguments _ fun _ _ => rfl) (results _ _ _), variables_ _, (by simp), ?_, fun h => (by cases h)⟩, fun x hx _ => (by simpa using hx)⟩
 ·exact ok_one hres rfl (okWide_bool_mk ht0 _)
 ·intro b o hx
  rw [hb.frozen (p := ⟨b, o, none⟩) (hlt (.cell b o) hx)]
  exact hfz b o (by simpa using hx)
end Go.Av
namespace Go.Av
open Go Go.RowKit
theorem VR.mono2 {K K' : Ctx} (hi : ∀ b o v, K.imm b o = some v -> K'.imm b o = some v) (hr : ∀ b x, K.row b = some x -> K'.row b = some x)
  (ht : ∀ b, b < K.base -> b < K'.base /\ K'.W.heap[b]? = K.W.heap[b]?) {a : AV} {v : Value} (k : VR K a v) : VR K' a v := by
 induction k with
 | undef v => exact .undef v
 | bool b => exact .bool b
 | int k n => exact .int k n
 | str s => exact .str s
 | nil => exact .nil
 | sl g xs sp sz b off cap f hsz hcap hml himm hv hg ih =>
  refine .sl g xs sp sz b off cap f hsz hcap hml (fun j hj => hi _ _ _ (himm j hj)) ih ?_
  cases g with
  | none => exact hg
  | full => exact hg
  | own b' => obtain ⟨h1, h2, E, s, h3⟩ := hg; exact ⟨h1, h2, E, s, hr _ _ h3⟩
 | sl0 a => exact .sl0 a
 | agg cs vs hl h1 hv ih => exact .agg cs vs hl h1 ih
 | tup cs vs hl hv ih => exact .tup cs vs hl ih
 | ptr b o => exact .ptr b o
 | rp cs b off f h1 himm hv ih => exact .rp cs b off f h1 (fun j hj => hi _ _ _ (himm j hj)) ih
 | nilptr => exact .nilptr
 | fn f caps vs hl hv ih => exact .fn f caps vs hl ih
 | nilfn => exact .nilfn
 | bs b n s cap E hr' hn hm => exact .bs b n s cap E (hr _ _ hr') hn hm
 | bp b s cap E hr' => exact .bp b s cap E (hr _ _ hr')
 | raw v => exact .raw v
 | tab vs b E fz hb hw => exact .tab vs b E fz (ht b hb).1 (by rw [(ht b hb).2]; exact hw)
def Ctx.lent (K : Ctx) (σ : AS) (w : World) : Ctx :=
 { imm := fun b o => match σ.box b with | some cs => if o < cs.length then w.cell? ⟨b, o, none⟩ else K.imm b o | none => K.imm b o, row := K.row, base := w.heap.size, W := w }
def tyT : Option (TyE × Nat) -> Option (TyE × Nat)
 | some (.t E, n) => some (.t E, n)
 | _ => none
theorem tyT_some {x : Option (TyE × Nat)} {y : TyE × Nat} (h : tyT x = some y) : ∃ E n, x = some (.t E, n) /\ y = (.t E, n) := by
 unfold tyT at h
 split at h
 ·cases h; exact ⟨_, _, rfl, rfl⟩
 ·cases h
def AS.shut (σ : AS) : AS := { box := fun _ => none, tip := fun _ => none, ty := fun b => tyT (σ.ty b) }
section
variable {G : Nat -> AV} {K : Ctx} {σ : AS} {w : World}
theorem lent_imm (h : Rel G K σ w) : ∀ b o v, K.imm b o = some v -> (K.lent σ w).imm b o = some v := by
 intro b o v hv
 unfold Ctx.lent
 simp only
 cases e : σ.box b with
 | none => exact hv
 | some cs =>
  obtain ⟨_, _, _, h4, _⟩ := h.box b cs e
  rw [h4 o] at hv; cases hv
theorem VR.lent (h : Rel G K σ w) {a : AV} {v : Value} (k : VR K a v) : VR (K.lent σ w) a v :=
 VR.mono2 (lent_imm h) (fun b x hx => hx) (fun b hb => ⟨Nat.lt_of_lt_of_le hb h.bs, h.below.block b hb⟩) k
theorem Rel.lent (h : Rel G K σ w) : Rel G (K.lent σ w) σ.shut w := by
 refine ⟨fun b o v hv => ?_, fun b cap s E hr => ?_, fun b cs hb => (by cases hb), fun b n s ht => (by cases ht), fun b E n ht => ?_, fun g => (h.glob g).lent h, Below.refl _ _, Nat.le_refl _⟩
 ·unfold Ctx.lent at hv
  simp only at hv
  cases e : σ.box b with
  | none => rw [e] at hv; exact h.imm b o v hv
  | some cs =>
   rw [e] at hv
   simp only at hv
   split at hv
   ·exact hv
   ·exact h.imm b o v hv
 ·obtain ⟨cur, fz, h1, h2, h3, _⟩ := h.row b cap s E hr
  exact ⟨cur, fz, h1, h2, h3, fun ⟨x, hx⟩ => by cases hx⟩
 ·obtain ⟨E', n', h1, h2⟩ := tyT_some ht
  cases h2
  exact h.ty b _ _ h1
end
def Lend (G : Nat -> AV) (σ : AS) (a a' : AV) : Prop := ∀ K w u, Rel G K σ w -> VR K a u -> VR (K.lent σ w) a' u
inductive Lends (G : Nat -> AV) (σ : AS) : List AV -> List AV -> Prop
 | nil : Lends G σ [] []
 | cons {a a' : AV} {l l' : List AV} (h : Lend G σ a a') (t : Lends G σ l l') : Lends G σ (a :: l) (a' :: l')
theorem Lend.id {G : Nat -> AV} {σ : AS} (a : AV) : Lend G σ a a := fun K w u hr h => h.lent hr
theorem Lend.le {G : Nat -> AV} {σ : AS} {a b c : AV} (h : Lend G σ a b) (k : Le b c) : Lend G σ a c := fun K w u hr hv => k _ _ (h K w u hr hv)
theorem Lends.ids {G : Nat -> AV} {σ : AS} : ∀ l : List AV, Lends G σ l l
 | [] => .nil
 | a :: l => .cons (.id a) (Lends.ids l)
theorem Lends.length {G : Nat -> AV} {σ : AS} {l l' : List AV} (h : Lends G σ l l') : l.length = l'.length := by
 induction h with
 | nil => rfl
 | cons _ _ ih => simp [ih]
theorem Lends.at_ {G : Nat -> AV} {σ : AS} {l l' : List AV} (h : Lends G σ l l') : ∀ j (h1 : j < l.length) (h2 : j < l'.length), Lend G σ l[j] l'[j] := by
 induction h with
 | nil => intro j h1; cases h1
 | cons h _ ih =>
  intro j h1 h2
  cases j with
  | zero => exact h
  | succ j => exact ih j (by simpa using h1) (by simpa using h2)
theorem Lends.append {G : Nat -> AV} {σ : AS} {a a' b b' : List AV} (h : Lends G σ a a') (k : Lends G σ b b') : Lends G σ (a ++ b) (a' ++ b') := by
 induction h with
 | nil => exact k
 | cons h _ ih => exact .cons h ih
theorem Lends.vrl {G : Nat -> AV} {σ : AS} {l l' : List AV} (h : Lends G σ l l') {K : Ctx} {w : World} (hr : Rel G K σ w) : ∀ {vs : List Value}, VRl K l vs -> VRl (K.lent σ w) l' vs := by
 induction h with
 | nil =>
  intro vs hv
  match vs, hv with
  | [], _ => exact trivial
 | cons h _ ih =>
  intro vs hv
  match vs, hv with
  | v :: vs, ⟨h1, h2⟩ => exact ⟨h K w v hr h1, ih h2⟩
theorem Lend.row {G : Nat -> AV} {σ : AS} {b s : Nat} {E : TypeId} {cs ds : List AV} (hb : σ.box b = some cs) (hl : Lends G σ (cs.take ds.length) ds) (hd : ds.length <= cs.length) {xs sp : List AV} (hx : (xs ++ sp).flatMap flat = ds) (hs0 : 0 < s)
  (hsz : ∀ e, e ∈ xs ++ sp -> (flat e).length = s /\ isv e = true /\ ∀ c, c ∈ flat e -> one c = true) : Lend G σ (.bs b xs.length s E) (.sl .none xs sp) := by
 intro K w u hr hv
 obtain ⟨g1, g2, g3, g4, g5, c, F, hc, hs, hvv⟩ := hr.box b cs hb
 generalize hn : xs.length = n at hv
 cases hv with
 | bs _ _ _ cap _ hrow hn' hm =>
  obtain ⟨cur, fz, h1, h2, h3, _⟩ := hr.row b cap s E hrow
  rw [hc] at h1
  simp only [Option.some.injEq, Obj.cells.injEq] at h1
  obtain ⟨rfl, _, _⟩ := h1
  have hlen : ds.length = (xs.length + sp.length) * s := by
   rw [<- hx]
   have : ∀ l : List AV, (∀ e, e ∈ l -> (flat e).length = s) -> (l.flatMap flat).length = l.length * s := by
    intro l
    induction l with
    | nil => intro _; simp
    | cons x l ih =>
     intro h
     rw [List.flatMap_cons, List.length_append, h x (by simp), ih (fun e he => h e (by simp [he])), List.length_cons, Nat.add_mul, Nat.one_mul, Nat.add_comm]
   rw [this _ (fun e he => (hsz e he).1), List.length_append]
  have hcap : xs.length + sp.length <= cap := by
   have : (xs.length + sp.length) * s <= cap * s := by omega
   exact Nat.le_of_mul_le_mul_right this hs0
  have hval := VR.sl (K := K.lent σ w) .none xs sp s b 0 cap (fun j => c.getD j Go.undef) hsz hcap hm
   (fun j hj => by
     rw [hx] at hj
     rw [Nat.zero_add]
     unfold Ctx.lent
     simp only [hb]
     rw [if_pos (by omega), cell_of_row w b j c F (0, 0) hc]
     have : j < c.size := by omega
     simp [this])
   (fun j hj => by
     have hj' : j < ds.length := by rw [<- hx]; exact hj
     have e : ((xs ++ sp).flatMap flat)[j] = ds[j] := by simp only [hx]
     rw [e]
     have h4 := hl.at_ j (by rw [List.length_take]; omega) hj'
     have h5 : (cs.take ds.length)[j]'(by rw [List.length_take]; omega) = cs[j]'(by omega) := List.getElem_take
     rw [h5] at h4
     exact h4 K w _ hr (hvv j (by omega)))
   trivial
  rw [hn] at hval
  exact hval
theorem Lend.agg {G : Nat -> AV} {σ : AS} {l l' : List AV} (h : Lends G σ l l') (h1 : ∀ c, c ∈ l' -> one c = true) : Lend G σ (.agg l) (.agg l') := by
 intro K w u hr hv
 cases hv with
 | agg _ vs hl _ hv =>
  have hlen := h.length
  exact .agg l' vs (by omega) h1 (fun j hj => h.at_ j (by omega) hj K w _ hr (hv j (by omega)))
def plainV : AV -> Bool
 | .bool _ => true
 | .int _ _ => true
 | .str _ => true
 | .tup l => l.all fun a => match a with | .bool _ => true | .int _ _ => true | .str _ => true | _ => false
 | _ => false
theorem plainV_vr {a : AV} (h : plainV a = true) {K K' : Ctx} {v : Value} (k : VR K a v) : VR K' a v := by
 cases k with
 | bool b => exact .bool b
 | int k n => exact .int k n
 | str s => exact .str s
 | tup cs vs hl hv =>
  refine .tup cs vs hl fun j hj => ?_
  have h1 := hv j hj
  have h2 : (match cs[j] with | .bool _ => true | .int _ _ => true | .str _ => true | _ => false) = true := by
   have := List.all_eq_true.1 h cs[j] (List.getElem_mem hj)
   exact this
  generalize cs[j] = a at *
  generalize vs.getD j Go.undef = u at *
  cases h1 with
  | bool b => exact .bool b
  | int k n => exact .int k n
  | str s => exact .str s
  | _ => cases h2
 | _ => cases h
theorem Pure.lend {P : Program} {G : Nat -> AV} {f : FuncId} {args args' : List AV} {v : AV} (h : Pure P G f args' v) (hv : plainV v = true) {σ : AS} (hl : Lends G σ args args') : Tri P G f args σ fun r s => r = v /\ s = σ := by
 refine ⟨(h σ).1, fun K w vals hr hvl => ?_⟩
 refine ((h σ.shut).2 (K.lent σ w) w vals hr.lent (hl.vrl hr hvl)).mono ?_
 rintro e w' ⟨u, r, s, K', he, ⟨hr1, hs1⟩, h1, h2, h3⟩
 subst hr1
 have hb : Below w.heap.size w w' := by
  have := h2.below
  rw [h3.base, h3.W] at this
  exact this
 exact ⟨u, r, σ, K, he, ⟨rfl, rfl⟩, plainV_vr hv h1, hr.grown hb, Ctx.le.refl K⟩
section
variable {G : Nat -> AV} {K K' : Ctx} {σ s : AS} {w w' : World}
end
theorem make_row {P : Program} {n by_ : Nat} {σ : AS} {t e : TypeId} {k k' : IntKind} {zz : List AV} (l : Nat) {K : AV -> AS -> Prop} {d : Dum σ} {d' : Dum K} (he : aelt P t = some (e, n, by_)) (hz : (el P t).bind (zc P) = some zz) (hb : l * by_ <= 140737488355328)
  (hK : ∀ b, σ.fresh b -> K (.bs b l n e) (σ.setBox b (List.replicate l zz).flatten)) : makeW P σ t (.int k l) (.int k' l) K d d' := by
 refine .inr ?_
 unfold amakeM
 rw [he, hz]
 refine ⟨by omega, by omega, by rw [<- Int.natCast_mul]; omega, fun b hf => ?_⟩
 exact hK b hf
theorem Tri.shrink {P : Program} {G : Nat -> AV} {f : FuncId} {args : List AV} {σ : AS} {Q Q' : AV -> AS -> Prop} (h : Tri P G f args σ Q) (hq : ∀ r s, Q r s -> ∃ s', s'.le s /\ Q' r s') : Tri P G f args σ Q' :=
 ⟨h.1, fun K w vals hr hv => (h.2 K w vals hr hv).mono (by rintro e w' ⟨u, r, s, K', he, hQ, h1, h2, h3⟩; obtain ⟨s', hl, hQ'⟩ := hq r s hQ; exact ⟨u, r, s', K', he, hQ', h1, h2.weaken hl, h3⟩)⟩
def MadeRow (n s : Nat) (E : TypeId) (cs : List AV) (σ : AS) (r : AV) (σ' : AS) : Prop := ∃ b, r = .bs b n s E /\ σ'.box b = some cs /\ σ.le σ' /\ σ.box b = none /\ σ.tip b = none
def Mk.row (n s : Nat) (E : TypeId) (cs : List AV) : Mk := ⟨fun b => .bs b n s E, cs⟩
theorem AS.set_le {σ σ' : AS} (h : σ.le σ') {b : Nat} {cs : List AV} (hb : σ'.box b = some cs) : (σ.setBox b cs).le σ' := by
 refine ⟨fun i c hi => ?_, fun i n hi => h.tip _ _ hi, fun i n hi => h.ty _ _ hi⟩
 have hi' : (if i = b then some cs else σ.box i) = some c := hi
 by_cases e : i = b
 ·subst e
  rw [if_pos rfl] at hi'
  rw [hb]; exact hi'
 ·rw [if_neg e] at hi'
  exact h.box _ _ hi'
theorem Tri.madeRow {P : Program} {G : Nat -> AV} {f : FuncId} {args : List AV} {σ : AS} {n s : Nat} {E : TypeId} {cs : List AV} (h : Tri P G f args σ fun r σ' => MadeRow n s E cs σ r σ') : Tri P G f args σ ((Mk.row n s E cs).out σ) :=
 h.shrink fun r s ⟨b, e, hb, hl, h0, h1⟩ => ⟨σ.setBox b cs, AS.set_le hl hb, b, ⟨h0, h1⟩, e, rfl⟩
end Go.Av
namespace Go.Av
open Go Go.RowKit
mutual
def noTab : AV -> Bool
 | .undef => true
 | .bool _ => true
 | .int _ _ => true
 | .str _ => true
 | .nil => true
 | .sl _ xs sp => noTabs xs && noTabs sp
 | .agg cs => noTabs cs
 | .tup cs => noTabs cs
 | .ptr _ _ => true
 | .rp cs => noTabs cs
 | .nilptr => true
 | .fn _ cs => noTabs cs
 | .nilfn => true
 | .bs _ _ _ _ => true
 | .bp _ _ _ => true
 | .raw _ => true
 | .tab _ => false
def noTabs : List AV -> Bool
 | [] => true
 | a :: l => noTab a && noTabs l
end
theorem noTabs_all : ∀ (l : List AV), noTabs l = true ↔ ∀ a, a ∈ l -> noTab a = true
 | [] => by simp [noTabs]
 | a :: l => by simp [noTabs, noTabs_all l]
theorem noTab_flat {a : AV} (h : noTab a = true) : ∀ c, c ∈ flat a -> noTab c = true := by
 cases a with
 | agg cs => intro c hc; exact (noTabs_all cs).1 (by simpa [noTab] using h) c hc
 | _ => intro c hc; simp [flat] at hc; subst hc; exact h
theorem noTab_cells {l : List AV} (h : ∀ a, a ∈ l -> noTab a = true) : ∀ c, c ∈ l.flatMap flat -> noTab c = true := fun c hc => by
 obtain ⟨a, ha, hca⟩ := List.mem_flatMap.1 hc
 exact noTab_flat (h a ha) c hca
theorem VR.mono3 {K K' : Ctx} (hi : ∀ b o v, K.imm b o = some v -> K'.imm b o = some v) (hr : ∀ b x, K.row b = some x -> K'.row b = some x) {a : AV} {v : Value} (k : VR K a v) : noTab a = true -> VR K' a v := by
 induction k with
 | undef v => intro _; exact .undef v
 | bool b => intro _; exact .bool b
 | int k n => intro _; exact .int k n
 | str s => intro _; exact .str s
 | nil => intro _; exact .nil
 | sl g xs sp sz b off cap f hsz hcap hml himm hv hg ih =>
  intro hn
  have hn' : ∀ a, a ∈ xs ++ sp -> noTab a = true := by
   simp only [noTab, Bool.and_eq_true, noTabs_all] at hn
   intro a ha
   rcases List.mem_append.1 ha with h | h
   ·exact hn.1 a h
   ·exact hn.2 a h
  refine .sl g xs sp sz b off cap f hsz hcap hml (fun j hj => hi _ _ _ (himm j hj)) (fun j hj => ih j hj (noTab_cells hn' _ (List.getElem_mem hj))) ?_
  cases g with
  | none => exact hg
  | full => exact hg
  | own b' => obtain ⟨h1, h2, E, s, h3⟩ := hg; exact ⟨h1, h2, E, s, hr _ _ h3⟩
 | sl0 a => intro _; exact .sl0 a
 | agg cs vs hl h1 hv ih => intro hn; exact .agg cs vs hl h1 fun j hj => ih j hj ((noTabs_all cs).1 (by simpa [noTab] using hn) _ (List.getElem_mem hj))
 | tup cs vs hl hv ih => intro hn; exact .tup cs vs hl fun j hj => ih j hj ((noTabs_all cs).1 (by simpa [noTab] using hn) _ (List.getElem_mem hj))
 | ptr b o => intro _; exact .ptr b o
 | rp cs b off f h1 himm hv ih => intro hn; exact .rp cs b off f h1 (fun j hj => hi _ _ _ (himm j hj)) fun j hj => ih j hj ((noTabs_all cs).1 (by simpa [noTab] using hn) _ (List.getElem_mem hj))
 | nilptr => intro _; exact .nilptr
 | fn f caps vs hl hv ih => intro hn; exact .fn f caps vs hl fun j hj => ih j hj ((noTabs_all caps).1 (by simpa [noTab] using hn) _ (List.getElem_mem hj))
 | nilfn => intro _; exact .nilfn
 | bs b n s cap E hr' hn hm => intro _; exact .bs b n s cap E (hr _ _ hr') hn hm
 | bp b s cap E hr' => intro _; exact .bp b s cap E (hr _ _ hr')
 | raw v => intro _; exact .raw v
 | tab vs b E fz hb hw => intro hn; cases hn
def AS.minus (σ' σ : AS) : AS := { box := fun b => if (σ.box b).isNone && (σ.tip b).isNone then σ'.box b else none, tip := fun _ => none, ty := fun _ => none }
theorem AS.minus_le (σ' σ : AS) : (σ'.minus σ).le σ' := by
 refine ⟨fun b cs h => ?_, fun _ _ h => (by cases h), fun _ _ h => (by cases h)⟩
 have h' : (if (σ.box b).isNone && (σ.tip b).isNone then σ'.box b else none) = some cs := h
 split at h'
 ·exact h'
 ·cases h'
theorem AS.minus_box {σ' σ : AS} {b : Nat} {cs : List AV} (h : σ'.box b = some cs) (h0 : σ.box b = none) (h1 : σ.tip b = none) : (σ'.minus σ).box b = some cs := by
 show (if (σ.box b).isNone && (σ.tip b).isNone then σ'.box b else none) = some cs
 rw [h0, h1]; exact h
def Ctx.kept (K : Ctx) (σ : AS) (w : World) : Ctx := { K with imm := (K.lent σ w).imm }
theorem Rel.settle {G : Nat -> AV} {K : Ctx} {σ σ' : AS} {w : World} (h : Rel G K σ' w) (hl : σ.le σ') : Rel G (K.kept (σ'.minus σ) w) σ w := by
 have h1 := h.weaken (AS.minus_le σ' σ)
 have hi := lent_imm h1
 have hk : K.le (K.kept (σ'.minus σ) w) := ⟨hi, fun _ _ h => h, rfl, rfl⟩
 have h2 := h1.lent
 have hno : ∀ b, (σ'.minus σ).box b = none -> ∀ o, (K.kept (σ'.minus σ) w).imm b o = K.imm b o := fun b hb o => by
  unfold Ctx.kept Ctx.lent
  simp only [hb]
 have hnb : ∀ b, (σ.box b).isNone = false \/ (σ.tip b).isNone = false -> (σ'.minus σ).box b = none := fun b hb => by
  show (if (σ.box b).isNone && (σ.tip b).isNone then σ'.box b else none) = none
  rcases hb with hb | hb <;> rw [hb] <;> simp
 refine ⟨h2.imm, fun b cap s E hr => ?_, fun b cs hb => ?_, fun b n s ht => ?_, fun b E n ht => (h.ty b E n (hl.ty _ _ ht)).mono hk, fun g => (h.glob g).mono hk, h.below, h.bs⟩
 ·obtain ⟨cur, fz, q1, q2, q3, q4⟩ := h.row b cap s E hr
  exact ⟨cur, fz, q1, q2, q3, fun ⟨x, hx⟩ => q4 ⟨x, hl.tip _ _ hx⟩⟩
 ·obtain ⟨q1, q2, q3, q4, q5, c, E, q6, q7, q8⟩ := h.box b cs (hl.box _ _ hb)
  refine ⟨q1, ?_, q3, fun o => by rw [hno b (hnb b (.inl (by rw [hb]; rfl)))]; exact q4 o, q5, c, E, q6, q7, fun j hj => (q8 j hj).mono hk⟩
  cases e : σ.tip b with
  | none => rfl
  | some x => rw [hl.tip _ _ e] at q2; cases q2
 ·obtain ⟨q1, cap, E, q2, q3, q4⟩ := h.tip b n s (hl.tip _ _ ht)
  exact ⟨q1, cap, E, q2, q3, fun o ho => by rw [hno b (hnb b (.inr (by rw [ht]; rfl)))]; exact q4 o ho⟩
theorem Tri.settle {P : Program} {G : Nat -> AV} {f : FuncId} {args : List AV} {σ : AS} {v : AV} (hv : noTab v = true) (h : Tri P G f args σ fun r σ' => σ.le σ' /\ Lend G (σ'.minus σ) r v) : Tri P G f args σ fun r σ' => r = v /\ σ' = σ :=
 ⟨h.1, fun K w vals hr hvl => (h.2 K w vals hr hvl).mono fun e w' ⟨u, r, σ', K', he, ⟨hl, hL⟩, h1, h2, h3⟩ => by
   have q1 := h2.weaken (AS.minus_le σ' σ)
   have q2 := hL K' w' u q1 h1
   exact ⟨u, v, σ, K'.kept (σ'.minus σ) w', he, ⟨rfl, rfl⟩, VR.mono3 (K := K'.lent (σ'.minus σ) w') (K' := K'.kept (σ'.minus σ) w') (fun _ _ _ h => h) (fun _ _ h => h) q2 hv, h2.settle hl, h3.trans ⟨lent_imm q1, fun _ _ h => h, rfl, rfl⟩⟩⟩
section
variable {P : Program} {e : Env} {σ : AS}
theorem ares_tmpc {t : Tmp} {r : ResultVar} {rs : List ResultVar} : ares P e σ (.tmp t :: r :: rs) = (ares P e σ (r :: rs)).map (e t :: ·) := by
 rw [ares]
 simp only [ares1]
 cases ares P e σ (r :: rs) <;> rfl
theorem ares_cellc {t : Tmp} {ty : TypeId} {r : ResultVar} {rs : List ResultVar} : ares P e σ (.cell t ty :: r :: rs) = (aload P σ ty (e t)).bind fun x => (ares P e σ (r :: rs)).map (x :: ·) := by
 rw [ares]
 simp only [ares1]
 cases aload P σ ty (e t) <;> cases ares P e σ (r :: rs) <;> rfl
end
theorem AS.le.noBox {σ σ' : AS} (h : σ.le σ') {b : Nat} (hb : σ'.box b = none) : σ.box b = none := by
 cases e : σ.box b with
 | none => rfl
 | some z => rw [h.box _ _ e] at hb; cases hb
theorem AS.le.noTip {σ σ' : AS} (h : σ.le σ') {b : Nat} (hb : σ'.tip b = none) : σ.tip b = none := by
 cases e : σ.tip b with
 | none => rfl
 | some z => rw [h.tip _ _ e] at hb; cases hb
end Go.Av
