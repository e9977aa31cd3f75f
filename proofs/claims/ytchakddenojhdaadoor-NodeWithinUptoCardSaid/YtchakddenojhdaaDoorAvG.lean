/- Appends and made slices on abstract values. -/
import Derived.Test.YtchakddenojhdaaDoorAvF
set_option linter.unusedVariables false
set_option linter.unusedSimpArgs false
namespace Go.Av
open Go Go.RowKit

theorem heap_setCells (b : Nat) : ∀ (vs : List Value) (o : Nat) (w : World) (cur : Array Value) (E : TypeId) (fz : Nat × Nat), w.heap[b]? = some (.cells cur E fz) →
    ∃ cur', (w.setCells b o vs).heap[b]? = some (.cells cur' E fz) ∧ cur'.size = cur.size
  | [], o, w, cur, E, fz, h => ⟨cur, h, rfl⟩
  | v :: r, o, w, cur, E, fz, h => by
    rw [World.setCells]
    have h1 : (w.setCell ⟨b, o, none⟩ v).heap[b]? = some (.cells (cur.setIfInBounds o v) E fz) := by
      simp [World.setCell, Array.getElem?_modify, h]
    obtain ⟨c', h2, h3⟩ := heap_setCells b r (o + 1) _ _ E fz h1
    exact ⟨c', h2, by rw [h3]; simp⟩
theorem heap_setCells_other (b : Nat) : ∀ (vs : List Value) (o : Nat) (w : World) (k : Nat), k ≠ b → (w.setCells b o vs).heap[k]? = w.heap[k]?
  | [], _, _, _, _ => rfl
  | v :: r, o, w, k, h => by
    rw [World.setCells, heap_setCells_other b r _ _ k h, Below.heap_setCell w _ v k h]
theorem setCells_meta (b : Nat) : ∀ (vs : List Value) (o : Nat) (w : World), (w.setCells b o vs).os = w.os ∧ (w.setCells b o vs).tape = w.tape ∧ (w.setCells b o vs).output = w.output ∧ (w.setCells b o vs).heap.size = w.heap.size
  | [], _, _ => ⟨rfl, rfl, rfl, rfl⟩
  | v :: r, o, w => by
    rw [World.setCells]
    obtain ⟨h1, h2, h3, h4⟩ := setCells_meta b r (o + 1) (w.setCell ⟨b, o, none⟩ v)
    exact ⟨h1, h2, h3, h4.trans (by simp)⟩

section
variable {G : Nat → AV} {K : Ctx} {σ : AS} {w : World}

/-- a new row of the call's own, of which the first m items stand -/
theorem Rel.addRow (h : Rel G K σ w) (c : Array Value) (E : TypeId) (cap s m : Nat) (hc : c.size = cap * s) (hm : m ≤ cap) (hml : cap ≤ maxLen) :
    ∃ K', K.le K' ∧ Rel G K' (σ.setTip w.heap.size (m, s)) (w.alloc (.cells c E)) ∧ K'.row w.heap.size = some (cap, s, E) ∧ ∀ o, o < m * s → K'.imm w.heap.size o = some (c.getD o Go.undef) := by
  have hf := h.fresh (Nat.le_refl w.heap.size)
  have hms : m * s ≤ cap * s := Nat.mul_le_mul_right _ hm
  let K' : Ctx := { K with imm := fun i o => if i = w.heap.size ∧ o < m * s then some (c.getD o Go.undef) else K.imm i o, row := fun i => if i = w.heap.size then some (cap, s, E) else K.row i }
  have himm0 : ∀ o, K.imm w.heap.size o = none := h.imm_none (Nat.le_refl _)
  have hle : K.le K' := by
    refine ⟨fun i o v hv => ?_, fun i x hx => ?_, rfl, rfl⟩
    · show (if i = w.heap.size ∧ o < m * s then some (c.getD o Go.undef) else K.imm i o) = some v
      rw [if_neg]
      · exact hv
      · rintro ⟨rfl, _⟩; rw [himm0] at hv; cases hv
    · show (if i = w.heap.size then some (cap, s, E) else K.row i) = some x
      rw [if_neg]
      · exact hx
      · rintro rfl; rw [h.row_none (Nat.le_refl _)] at hx; cases hx
  have h' := h.alloc (.cells c E)
  have hnew : (w.alloc (.cells c E)).heap[w.heap.size]? = some (.cells c E (0, 0)) := heap_alloc_new w _
  refine ⟨K', hle, ⟨fun i o v hv => ?_, fun i cp s' F hr => ?_, fun i cs hi => ?_, fun i n s' hi => ?_, fun g => (h'.glob g).mono hle, h'.below, h'.bs⟩, ?_, fun o ho => ?_⟩
  · have hv' : (if i = w.heap.size ∧ o < m * s then some (c.getD o Go.undef) else K.imm i o) = some v := hv
    split at hv'
    · rename_i hx
      obtain ⟨rfl, ho⟩ := hx
      rw [World.cell?_alloc_new, ← hv']
      have : o < c.size := by omega
      simp [this]
    · exact h'.imm _ _ _ hv'
  · have hr' : (if i = w.heap.size then some (cap, s, E) else K.row i) = some (cp, s', F) := hr
    split at hr'
    · rename_i hx
      subst hx
      simp only [Option.some.injEq, Prod.mk.injEq] at hr'
      obtain ⟨rfl, rfl, rfl⟩ := hr'
      exact ⟨c, hnew, hc, hml⟩
    · exact h'.row _ _ _ _ hr'
  · obtain ⟨h1, h2, h3, h4, h5, d, F, hd, hs, hvv⟩ := h'.box i cs hi
    have hne : i ≠ w.heap.size := by rintro rfl; have hi' : σ.box w.heap.size = some cs := hi; rw [hf.1] at hi'; cases hi'
    refine ⟨h1, ?_, ?_, fun o => ?_, h5, d, F, hd, hs, fun j hj => (hvv j hj).mono hle⟩
    · simp only [AS.setTip, if_neg hne]; exact h2
    · show (if i = w.heap.size then some (cap, s, E) else K.row i) = none
      rw [if_neg hne]; exact h3
    · show (if i = w.heap.size ∧ o < m * s then some (c.getD o Go.undef) else K.imm i o) = none
      rw [if_neg (fun x => hne x.1)]; exact h4 o
  · by_cases hne : i = w.heap.size
    · subst hne
      simp only [AS.setTip, if_true, Option.some.injEq, Prod.mk.injEq] at hi
      obtain ⟨rfl, rfl⟩ := hi
      refine ⟨h.bs, cap, E, ?_, hm, fun o ho => ?_⟩
      · show (if w.heap.size = w.heap.size then some (cap, s, E) else K.row _) = _
        rw [if_pos rfl]
      · show (if w.heap.size = w.heap.size ∧ o < m * s then some (c.getD o Go.undef) else K.imm _ o) = none
        rw [if_neg (by omega)]; exact himm0 o
    · simp only [AS.setTip, if_neg hne] at hi
      obtain ⟨h1, cp, F, hr, hn, ho⟩ := h'.tip i n s' hi
      refine ⟨h1, cp, F, hle.row _ _ hr, hn, fun o hlo => ?_⟩
      show (if i = w.heap.size ∧ o < m * s then some (c.getD o Go.undef) else K.imm i o) = none
      rw [if_neg (fun x => hne x.1)]; exact ho o hlo
  · show (if w.heap.size = w.heap.size then some (cap, s, E) else K.row _) = _
    rw [if_pos rfl]
  · show (if w.heap.size = w.heap.size ∧ o < m * s then some (c.getD o Go.undef) else K.imm _ o) = _
    rw [if_pos ⟨rfl, ho⟩]

/-- items put behind the last one of a row of the call's own -/
theorem Rel.growRow (h : Rel G K σ w) {b n s cap : Nat} {E : TypeId} (ht : σ.tip b = some (n, s)) (hrow : K.row b = some (cap, s, E)) (news : List Value) (m : Nat) (hm : news.length = m * s) (hcap : n + m ≤ cap)
    (h1 : ∀ u, u ∈ news → u.oneCell' = true) :
    ∃ K', K.le K' ∧ Rel G K' (σ.setTip b (n + m, s)) (w.setCells b (n * s) news) ∧ ∀ j, j < news.length → K'.imm b (n * s + j) = some (news.getD j Go.undef) := by
  obtain ⟨hb, cap', E', hrow', hn, himm⟩ := h.tip b n s ht
  rw [hrow] at hrow'
  simp only [Option.some.injEq, Prod.mk.injEq, true_and] at hrow'
  obtain ⟨rfl, rfl⟩ := hrow'
  obtain ⟨cur, hcur, hcs, hml⟩ := h.row b cap s E hrow
  have hnb : σ.box b = none := by
    cases e : σ.box b with
    | none => rfl
    | some cs => have := (h.box b cs e).2.1; rw [ht] at this; cases this
  have hms : (n + m) * s = n * s + m * s := Nat.add_mul n m s
  have hle2 : (n + m) * s ≤ cap * s := Nat.mul_le_mul_right _ hcap
  obtain ⟨cur', hc1, hc2⟩ := heap_setCells b news (n * s) w cur E (0, 0) hcur
  obtain ⟨m1, m2, m3, m4⟩ := setCells_meta b news (n * s) w
  have hcellin : ∀ j, j < news.length → (w.setCells b (n * s) news).cell? ⟨b, n * s + j, none⟩ = some (news.getD j Go.undef) := by
    intro j hj
    have := World.cell?_setCells_in b news (n * s) w (fun j hj => by
      rw [cell_of_row w b _ cur E (0, 0) hcur]
      have : n * s + j < cur.size := by omega
      simp [this]) j hj
    rw [this]
    simp [hj]
  let K' : Ctx := { K with imm := fun i o => if i = b ∧ n * s ≤ o ∧ o < n * s + news.length then some (news.getD (o - n * s) Go.undef) else K.imm i o }
  have hle : K.le K' := by
    refine ⟨fun i o v hv => ?_, fun _ _ h => h, rfl, rfl⟩
    show (if i = b ∧ n * s ≤ o ∧ o < n * s + news.length then some (news.getD (o - n * s) Go.undef) else K.imm i o) = some v
    rw [if_neg]
    · exact hv
    · rintro ⟨rfl, hx, _⟩; rw [himm o hx] at hv; cases hv
  refine ⟨K', hle, ⟨fun i o v hv => ?_, fun i cp s' F hr => ?_, fun i cs hi => ?_, fun i n' s' hi => ?_, fun g => (h.glob g).mono hle, ?_, by rw [m4]; exact h.bs⟩, fun j hj => ?_⟩
  · have hv' : (if i = b ∧ n * s ≤ o ∧ o < n * s + news.length then some (news.getD (o - n * s) Go.undef) else K.imm i o) = some v := hv
    split at hv'
    · rename_i hx
      obtain ⟨rfl, hx1, hx2⟩ := hx
      have := hcellin (o - n * s) (by omega)
      rw [show n * s + (o - n * s) = o by omega] at this
      rw [this, ← hv']
    · rename_i hx
      have hcell : (w.setCells b (n * s) news).cell? ⟨i, o, none⟩ = w.cell? ⟨i, o, none⟩ :=
        World.cell?_setCells_out b news (n * s) w ⟨i, o, none⟩ (fun e1 _ => by
          have e1' : i = b := e1
          show o < n * s ∨ n * s + news.length ≤ o
          rcases Nat.lt_or_ge o (n * s) with hlt | hge
          · exact .inl hlt
          · rcases Nat.lt_or_ge o (n * s + news.length) with hlt2 | hge2
            · exact absurd ⟨e1', hge, hlt2⟩ hx
            · exact .inr hge2)
      rw [hcell]; exact h.imm _ _ _ hv'
  · obtain ⟨cu, hcu, hx⟩ := h.row i cp s' F hr
    by_cases hib : i = b
    · subst hib
      rw [hcur] at hcu
      simp only [Option.some.injEq, Obj.cells.injEq] at hcu
      obtain ⟨rfl, rfl, _⟩ := hcu
      exact ⟨cur', hc1, by rw [hc2]; exact hx.1, hx.2⟩
    · exact ⟨cu, by rw [heap_setCells_other b news _ _ i hib]; exact hcu, hx⟩
  · obtain ⟨k1, k2, k3, k4, k5, d, F, hd, hs, hvv⟩ := h.box i cs hi
    have hne : i ≠ b := by rintro rfl; have hi' : σ.box i = some cs := hi; rw [hnb] at hi'; cases hi'
    refine ⟨k1, by simp only [AS.setTip, if_neg hne]; exact k2, k3, fun o => ?_, k5, d, F, by rw [heap_setCells_other b news _ _ i hne]; exact hd, hs, fun j hj => (hvv j hj).mono hle⟩
    show (if i = b ∧ n * s ≤ o ∧ o < n * s + news.length then some (news.getD (o - n * s) Go.undef) else K.imm i o) = none
    rw [if_neg (fun x => hne x.1)]; exact k4 o
  · by_cases hne : i = b
    · subst hne
      simp only [AS.setTip, if_true, Option.some.injEq, Prod.mk.injEq] at hi
      obtain ⟨rfl, rfl⟩ := hi
      refine ⟨hb, cap, E, hrow, hcap, fun o ho => ?_⟩
      show (if i = i ∧ n * s ≤ o ∧ o < n * s + news.length then some (news.getD (o - n * s) Go.undef) else K.imm i o) = none
      rw [if_neg (by omega)]; exact himm o (by omega)
    · simp only [AS.setTip, if_neg hne] at hi
      obtain ⟨k1, cp, F, hr, hn', ho⟩ := h.tip i n' s' hi
      refine ⟨k1, cp, F, hr, hn', fun o hlo => ?_⟩
      show (if i = b ∧ n * s ≤ o ∧ o < n * s + news.length then some (news.getD (o - n * s) Go.undef) else K.imm i o) = none
      rw [if_neg (fun x => hne x.1)]; exact ho o hlo
  · exact h.below.trans ⟨m1, m2, m3, by rw [m4]; exact Nat.le_refl _, fun k hk => heap_setCells_other b news _ _ k (by omega)⟩
  · show (if b = b ∧ n * s ≤ n * s + j ∧ n * s + j < n * s + news.length then some (news.getD (n * s + j - n * s) Go.undef) else K.imm b (n * s + j)) = _
    rw [if_pos ⟨rfl, by omega, by omega⟩, Nat.add_sub_cancel_left]
end

def aelt (P : Program) (t : TypeId) : Option (TypeId × Nat × Nat) :=
  match el P t with
  | some e => match tk P e, by_ P e, zc P e with
    | some (_, n), some b, some z => if 0 < n ∧ 0 < b ∧ z.length = n then some (e, n, b) else none
    | _, _, _ => none
  | none => none
theorem aelt_spec {P : Program} {K : Ctx} {t e : TypeId} {n b : Nat} (h : aelt P t = some (e, n, b)) :
    P.underlying t = some (.slice e) ∧ ∃ i z, P.info? e = some i ∧ i.zero = some z ∧ i.size = n ∧ i.bytes = b ∧ z.cells.size = n ∧ 0 < n ∧ 0 < b ∧ ∀ zz, zc P e = some zz → CR K zz z.cells := by
  unfold aelt at h
  split at h
  case h_2 => cases h
  rename_i e' he
  split at h
  case h_2 => cases h
  rename_i ag n' b' z hn hb hz
  split at h
  case isFalse => cases h
  rename_i hc
  simp only [Option.some.injEq, Prod.mk.injEq] at h
  obtain ⟨rfl, rfl, rfl⟩ := h
  obtain ⟨i, zv, hi, hzv, hcr⟩ := zc_spec (K := K) hz
  refine ⟨run_el he, i, zv, hi, hzv, ?_, ?_, by rw [hcr.size]; exact hc.2.2, hc.1, hc.2.1, fun zz hzz => ?_⟩
  · unfold tk at hn
    rw [hi] at hn
    split at hn
    · rename_i hii
      simp only [Option.some.injEq, Prod.mk.injEq] at hn hii
      rw [hii]; exact hn.2
    · cases hn
  · unfold by_ at hb
    rw [hi] at hb
    simpa using hb
  · rw [hz] at hzz
    simp only [Option.some.injEq] at hzz
    subst hzz
    exact hcr
end Go.Av
