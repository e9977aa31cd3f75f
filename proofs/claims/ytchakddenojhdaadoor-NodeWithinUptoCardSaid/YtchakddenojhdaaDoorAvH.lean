/- Appends, made slices, conversions between texts and bytes, on abstract values. -/
import Derived.Test.YtchakddenojhdaaDoorAvG
set_option linter.unusedVariables false
set_option linter.unusedSimpArgs false
namespace Go.Av
open Go Go.RowKit

def aappend (P : Program) (σ : AS) (t tx : TypeId) (s x : AV) (K : AV → AS → Prop) : Prop :=
  match aelt P t, asrc P tx x with
  | some (_, n, by_), some ys =>
    (∀ a, a ∈ ys → (flat a).length = n) ∧
    match s with
    | .nil => ys.length * by_ ≤ 140737488355328 ∧ (ys = [] → K .nil σ) ∧ (ys ≠ [] → ∀ b, σ.fresh b → K (.sl (.own b) ys []) (σ.setTip b (ys.length, n)))
    | .sl .full xs [] => (∀ a, a ∈ xs → (flat a).length = n) ∧ (xs.length + ys.length) * by_ ≤ 140737488355328 ∧ (ys = [] → K (.sl .full xs []) σ) ∧
        (ys ≠ [] → ∀ b, σ.fresh b → K (.sl (.own b) (xs ++ ys) []) (σ.setTip b (xs.length + ys.length, n)))
    | .sl (.own b) xs [] => σ.tip b = some (xs.length, n) ∧ (∀ a, a ∈ xs → (flat a).length = n) ∧ (xs.length + ys.length) * by_ ≤ 140737488355328 ∧
        ∀ b', (b' = b ∨ σ.fresh b') → K (.sl (.own b') (xs ++ ys) []) ((σ.delTip b).setTip b' (xs.length + ys.length, n))
    | _ => False
  | _, _ => False

theorem cells_of_flat {K : Ctx} {xs : List AV} {n : Nat} (hn : ∀ a, a ∈ xs → (flat a).length = n) : (xs.flatMap flat).length = xs.length * n := flatMap_length xs hn

theorem AS.setTip_del (σ : AS) (b : Nat) (x : Nat × Nat) : (σ.delTip b).setTip b x = σ.setTip b x := by
  unfold AS.setTip AS.delTip
  congr 1
  funext i
  show (if i = b then some x else if i = b then none else σ.tip i) = _
  split <;> rfl

theorem Rel.delTip {G : Nat → AV} {K : Ctx} {σ : AS} {w : World} (h : Rel G K σ w) (b : Nat) : Rel G K (σ.delTip b) w := by
  refine ⟨h.imm, h.row, fun i cs hi => ?_, fun i n s hi => ?_, h.glob, h.below, h.bs⟩
  · obtain ⟨h1, h2, h3⟩ := h.box i cs hi
    refine ⟨h1, ?_, h3⟩
    show (if i = b then none else σ.tip i) = none
    split <;> first | rfl | exact h2
  · have hi' : (if i = b then none else σ.tip i) = some (n, s) := hi
    split at hi'
    · cases hi'
    · exact h.tip i n s hi'

/-- a slice at the head of its own row, its items read off old cells and new ones -/
theorem append_new {P : Program} {G : Nat → AV} {K : Ctx} {σ : AS} {w : World} (hr : Rel G K σ w) {xs ys : List AV} {n by_ : Nat} {t tx ty e : TypeId} {i : TypeInfo} {z : Value}
    (ht : P.underlying t = some (.slice e)) (hi : P.info? e = some i) (hz : i.zero = some z) (hsz : i.size = n) (hby : i.bytes = by_) (hzs : z.cells.size = n) (hn0 : 0 < n) (hb0 : 0 < by_)
    (hxs : ∀ a, a ∈ xs → (flat a).length = n ∧ isv a = true ∧ ∀ c, c ∈ flat a → one c = true) (hys : ∀ a, a ∈ ys → (flat a).length = n ∧ isv a = true ∧ ∀ c, c ∈ flat a → one c = true)
    (base : Option Addr) (sCap : Nat) (olds : List Value) (hol : olds.length = (xs.flatMap flat).length) (hov : ∀ j (hj : j < (xs.flatMap flat).length), VR K (xs.flatMap flat)[j] (olds.getD j Go.undef))
    (hold : (Builtin.firstCells i.size xs.length (.slice base xs.length sCap)).run P w.drew = .ok olds.toArray w.drew)
    (v : Value) (news : List Value) (hsrc : Src P i.size tx v ys.length news w) (hnl : news.length = (ys.flatMap flat).length) (hnv : ∀ j (hj : j < (ys.flatMap flat).length), VR K (ys.flatMap flat)[j] (news.getD j Go.undef))
    (hg : sCap < xs.length + ys.length) (hbytes : (xs.length + ys.length) * by_ ≤ 140737488355328) :
    ∃ u w' K', (Builtin.append_ #[t, tx] ty #[.slice base xs.length sCap, v]).run P w = .ok u w' ∧ K.le K' ∧ Rel G K' (σ.setTip w.heap.size (xs.length + ys.length, n)) w' ∧
      VR K' (.sl (.own w.heap.size) (xs ++ ys) []) u := by
  have hmax : xs.length + ys.length ≤ 140737488355328 := by
    have : (xs.length + ys.length) * 1 ≤ (xs.length + ys.length) * by_ := Nat.mul_le_mul_left _ hb0
    omega
  have hrun := run_append_grow_src (P := P) w t tx ty e i z ht hi hz base xs.length sCap olds hold v ys.length news hsrc hg (by omega) (by rw [hby]; exact growslice_fits hg hbytes)
  have hge := grownCap_ge w (xs.length + ys.length) sCap e
  have hcm : grownCap w (xs.length + ys.length) sCap e ≤ maxLen := grownCap_le_maxLen w _ sCap e (by unfold maxLen; omega)
  generalize grownCap w (xs.length + ys.length) sCap e = cap at hrun hge hcm
  have hxl := flatMap_length (sz := n) xs (fun a ha => (hxs a ha).1)
  have hyl := flatMap_length (sz := n) ys (fun a ha => (hys a ha).1)
  have hsize : ((olds ++ news).toArray ++ Builtin.zeroCells z.cells (cap - (xs.length + ys.length))).size = cap * n := by
    simp only [Array.size_append, List.size_toArray, List.length_append, size_zeroCells, hzs, hol, hnl, hxl, hyl, ← Nat.add_mul]
    congr 1; omega
  obtain ⟨K', hle, hrel, hrow, himm⟩ := hr.drew.addRow ((olds ++ news).toArray ++ Builtin.zeroCells z.cells (cap - (xs.length + ys.length))) e cap n (xs.length + ys.length) hsize hge hcm
  refine ⟨_, _, K', hrun, hle, hrel, ?_⟩
  have key : ∀ j (hj : j < ((xs ++ ys).flatMap flat).length), VR K' ((xs ++ ys).flatMap flat)[j] (((olds ++ news).toArray ++ Builtin.zeroCells z.cells (cap - (xs.length + ys.length))).getD j Go.undef) := by
    intro j hj
    have hjl : j < (olds ++ news).length := by simp only [List.flatMap_append, List.length_append] at hj ⊢; omega
    have e1 : ((olds ++ news).toArray ++ Builtin.zeroCells z.cells (cap - (xs.length + ys.length))).getD j Go.undef = (olds ++ news).getD j Go.undef := by
      simp only [Array.getD_eq_getD_getElem?, List.getD_eq_getElem?_getD]
      rw [Array.getElem?_append_left (by simpa using hjl)]
      simp
    rw [e1]
    by_cases hjx : j < (xs.flatMap flat).length
    · have e2 : (olds ++ news).getD j Go.undef = olds.getD j Go.undef := by
        simp only [List.getD_eq_getElem?_getD]; rw [List.getElem?_append_left (by omega)]
      have e3 : ((xs ++ ys).flatMap flat)[j] = (xs.flatMap flat)[j] := by
        simp only [List.flatMap_append]; rw [List.getElem_append_left hjx]
      rw [e2, e3]; exact (hov j hjx).mono hle
    · have e2 : (olds ++ news).getD j Go.undef = news.getD (j - (xs.flatMap flat).length) Go.undef := by
        simp only [List.getD_eq_getElem?_getD]; rw [List.getElem?_append_right (by omega), hol]
      have hj2 : j - (xs.flatMap flat).length < (ys.flatMap flat).length := by simp only [List.flatMap_append, List.length_append] at hj; omega
      have e3 : ((xs ++ ys).flatMap flat)[j] = (ys.flatMap flat)[j - (xs.flatMap flat).length] := by
        simp only [List.flatMap_append]; rw [List.getElem_append_right (by omega)]
      rw [e2, e3]; exact (hnv _ hj2).mono hle
  have := VR.sl_row (K := K') (g := .own w.heap.size) (xs := xs ++ ys) (n := n) (b := w.heap.size) (cap := cap) (c := (olds ++ news).toArray ++ Builtin.zeroCells z.cells (cap - (xs.length + ys.length)))
    (fun a ha => by rcases List.mem_append.1 ha with h | h; exact hxs a h; exact hys a h) (by simp; exact hge) hcm (fun o ho => himm o (by simpa using ho)) key ⟨rfl, rfl, e, n, hrow⟩
  simpa using this

theorem aappend_sound {P : Program} {G : Nat → AV} {K : Ctx} {σ : AS} {w : World} (hr : Rel G K σ w) {t tx ty : TypeId} {s x : AV} {Kc : AV → AS → Prop} (h : aappend P σ t tx s x Kc)
    {v u : Value} (hv : VR K s v) (hu : VR K x u) :
    ∃ z w' K' r σ', (Builtin.append_ #[t, tx] ty #[v, u]).run P w = .ok z w' ∧ K.le K' ∧ Rel G K' σ' w' ∧ VR K' r z ∧ Kc r σ' := by
  unfold aappend at h
  split at h
  case h_2 => exact h.elim
  rename_i e n by_ ys hel hsrc
  obtain ⟨hys, h⟩ := h
  obtain ⟨ht, i, z, hi, hz, hsz, hby, hzs, hn0, hb0, _⟩ := aelt_spec (K := K) hel
  obtain ⟨news, hS, hnl, hyv, hnv⟩ := asrc_sound hr hsrc hys hu
  have hysf : ∀ a, a ∈ ys → (flat a).length = n ∧ isv a = true ∧ ∀ c, c ∈ flat a → one c = true := fun a ha => ⟨hys a ha, hyv a ha⟩
  subst hsz
  split at h
  · -- onto nil
    obtain ⟨hbytes, h0, h1⟩ := h
    rw [VR.nil_iff] at hv; subst hv
    by_cases hy : ys = []
    · subst hy
      have hrun : (Builtin.append_ #[t, tx] ty #[.slice none 0 0, u]).run P w = .ok (.slice none 0 0) w := by
        have hc1 : (Builtin.firstCells i.size 0 u).run P w = .ok news.toArray w := hS.cells
        have hl1 : ∀ w' : World, (Builtin.lenOf u).run P w' = .ok 0 w' := hS.len
        rcases hS.kind with ⟨e', hk⟩ | hk <;> simp [Builtin.append_, run_underlying ht, run_underlying hk, sizeOf, typeInfo, hi, hl1, hc1]
      exact ⟨_, w, K, .nil, σ, hrun, Ctx.le.refl K, hr, .nil, h0 rfl⟩
    · obtain ⟨z', w', K', h2, h3, h4, h5⟩ := append_new (xs := []) (P := P) (ty := ty) hr ht hi hz rfl hby hzs hn0 hb0 (fun a ha => by cases ha) hysf none 0 [] rfl (fun j hj => by cases hj)
        (by simp [Builtin.firstCells]) u news hS hnl hnv (by have := List.length_pos_iff.2 hy; simp; omega) (by simpa using hbytes)
      refine ⟨z', w', K', _, _, h2, h3, h4, h5, ?_⟩
      have := h1 hy w.heap.size (hr.fresh (Nat.le_refl _))
      simpa using this
  · -- onto a slice without spare room
    rename_i xs
    obtain ⟨hxn, hbytes, h0, h1⟩ := h
    have hv0 := hv
    cases hv with
    | sl _ _ _ sz b off cap f hsz hcap hml himm hvv hg =>
      have hgc : cap = xs.length := hg
      simp only [List.append_nil] at hsz himm hvv
      by_cases hy : ys = []
      · subst hy
        have hnews : news = [] := List.eq_nil_of_length_eq_zero (by simpa using hnl)
        subst hnews
        have hrun : (Builtin.append_ #[t, tx] ty #[.slice (some ⟨b, off, none⟩) xs.length cap, u]).run P w = .ok (.slice (some ⟨b, off, none⟩) xs.length cap) w := by
          have hc0 : xs.length ≤ cap := by omega
          have hc1 : (Builtin.firstCells i.size 0 u).run P w = .ok (#[] : Array Value) w := hS.cells
          have hl1 : ∀ w' : World, (Builtin.lenOf u).run P w' = .ok 0 w' := hS.len
          rcases hS.kind with ⟨e', hk⟩ | hk <;> simp [Builtin.append_, run_underlying ht, run_underlying hk, sizeOf, typeInfo, hi, hl1, hc1, hc0, storeCells]
        exact ⟨_, w, K, _, σ, hrun, Ctx.le.refl K, hr, hv0, h0 rfl⟩
      · have hxl := flatMap_length (sz := i.size) xs hxn
        obtain ⟨z', w', K', h2, h3, h4, h5⟩ := append_new (xs := xs) (P := P) (ty := ty) hr ht hi hz rfl hby hzs hn0 hb0 (fun a ha => ⟨hxn a ha, (hsz a ha).2⟩) hysf (some ⟨b, off, none⟩) cap (valsOf f (xs.flatMap flat).length) (by simp [valsOf])
          (fun j hj => by rw [valsOf_getD f _ j hj]; exact hvv j hj)
          (by
            refine run_firstCells_some w.drew i.size xs.length ⟨b, off, none⟩ xs.length cap _ (by simp [valsOf, hxl]) (fun j y hy => ?_)
            obtain ⟨hj, rfl⟩ := List.getElem?_eq_some_iff.1 hy
            have hj' : j < (xs.flatMap flat).length := by simpa [valsOf] using hj
            rw [Addr.add_lit]
            simp only [valsOf, List.getElem_map, List.getElem_range]
            exact hr.imm _ _ _ (himm j hj')) u news hS hnl hnv (by have := List.length_pos_iff.2 hy; omega) hbytes
        exact ⟨z', w', K', _, _, h2, h3, h4, h5, h1 hy w.heap.size (hr.fresh (Nat.le_refl _))⟩
  · -- onto one's own
    rename_i b0 xs
    obtain ⟨htip, hxn, hbytes, h1⟩ := h
    have hv0 := hv
    cases hv with
    | sl _ _ _ sz b off cap f hsz hcap hml himm hvv hg =>
      obtain ⟨rfl, rfl, E, s, hrow⟩ := hg
      simp only [List.append_nil] at hsz himm hvv
      have hxl := flatMap_length (sz := i.size) xs hxn
      obtain ⟨_, cap', E', hrow', hn', hti⟩ := hr.tip b0 _ _ htip
      rw [hrow] at hrow'
      simp only [Option.some.injEq, Prod.mk.injEq] at hrow'
      obtain ⟨rfl, rfl, rfl⟩ := hrow'
      obtain ⟨cur, hcur, hcs, hml'⟩ := hr.row b0 cap i.size E hrow
      by_cases hroom : xs.length + ys.length ≤ cap
      · have hyl := flatMap_length (sz := i.size) ys hys
        have hle2 : (xs.length + ys.length) * i.size ≤ cap * i.size := Nat.mul_le_mul_right _ hroom
        have hadd : (xs.length + ys.length) * i.size = xs.length * i.size + ys.length * i.size := Nat.add_mul _ _ _
        have hrun := run_append_room_src (P := P) w t tx ty e i ht hi b0 0 xs.length cap u ys.length news hS hroom
          (fun j hj => by
            rw [cell_of_row w b0 _ cur E (0, 0) hcur]
            have : xs.length * i.size + j < cur.size := by omega
            simp [this])
          (fun j hj => by simp [World.frozen?, hcur])
        rw [Nat.zero_add] at hrun
        obtain ⟨K', hle, hrel, himm'⟩ := hr.growRow htip hrow news ys.length (by rw [hnl, hyl]) hroom hS.one
        have h2 := h1 b0 (.inl rfl)
        rw [AS.setTip_del] at h2
        refine ⟨_, _, K', _, _, hrun, hle, hrel, ?_, h2⟩
        have key := VR.sl (K := K') (.own b0) (xs ++ ys) [] i.size b0 0 cap (fun j => if j < (xs.flatMap flat).length then f j else news.getD (j - (xs.flatMap flat).length) Go.undef)
          (fun a ha => by
            rw [List.append_nil] at ha
            rcases List.mem_append.1 ha with h | h
            · exact ⟨hxn a h, (hsz a h).2⟩
            · exact hysf a h) (by simp; exact hroom) hml
          (fun j hj => by
            simp only [List.append_nil, List.flatMap_append, List.length_append] at hj
            by_cases hjx : j < (xs.flatMap flat).length
            · rw [if_pos hjx]; exact hle.imm _ _ _ (himm j hjx)
            · rw [if_neg hjx, Nat.zero_add]
              have := himm' (j - (xs.flatMap flat).length) (by omega)
              rw [← this]; congr 1; omega)
          (fun j hj => by
            simp only [List.append_nil, List.flatMap_append] at hj ⊢
            by_cases hjx : j < (xs.flatMap flat).length
            · simp only [if_pos hjx]; rw [List.getElem_append_left hjx]; exact (hvv j hjx).mono hle
            · simp only [if_neg hjx]
              have hj2 : j - (xs.flatMap flat).length < (ys.flatMap flat).length := by simp only [List.length_append] at hj; omega
              rw [List.getElem_append_right (by omega)]; exact (hnv _ hj2).mono hle)
          ⟨rfl, rfl, E, i.size, hle.row _ _ hrow⟩
        simpa using key
      · obtain ⟨z', w', K', h2, h3, h4, h5⟩ := append_new (xs := xs) (P := P) (ty := ty) hr ht hi hz rfl hby hzs hn0 hb0 (fun a ha => ⟨hxn a ha, (hsz a ha).2⟩) hysf (some ⟨b0, 0, none⟩) cap (valsOf f (xs.flatMap flat).length) (by simp [valsOf])
          (fun j hj => by rw [valsOf_getD f _ j hj]; exact hvv j hj)
          (by
            refine run_firstCells_some w.drew i.size xs.length ⟨b0, 0, none⟩ xs.length cap _ (by simp [valsOf, hxl]) (fun j y hy => ?_)
            obtain ⟨hj, rfl⟩ := List.getElem?_eq_some_iff.1 hy
            have hj' : j < (xs.flatMap flat).length := by simpa [valsOf] using hj
            rw [Addr.add_lit]
            simp only [valsOf, List.getElem_map, List.getElem_range]
            exact hr.imm _ _ _ (himm j hj')) u news hS hnl hnv (by omega) hbytes
        have hf := hr.fresh (Nat.le_refl w.heap.size)
        have h6 := h1 w.heap.size (.inr hf)
        refine ⟨z', w', K', _, _, h2, h3, ?_, h5, h6⟩
        have hne : w.heap.size ≠ b0 := fun e => by rw [e] at hf; rw [hf.2] at htip; cases htip
        have := h4.delTip b0
        have e2 : ((σ.setTip w.heap.size (xs.length + ys.length, i.size)).delTip b0) = ((σ.delTip b0).setTip w.heap.size (xs.length + ys.length, i.size)) := by
          unfold AS.setTip AS.delTip
          congr 1
          funext j
          show (if j = b0 then none else if j = w.heap.size then some _ else σ.tip j) = (if j = w.heap.size then some _ else if j = b0 then none else σ.tip j)
          by_cases hj : j = b0
          · subst hj; rw [if_pos rfl, if_neg (Ne.symm hne), if_pos rfl]
          · rw [if_neg hj, if_neg hj]
        rw [e2] at this
        exact this
  · exact h.elim
end Go.Av
