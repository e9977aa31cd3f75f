/- Structs put together, stores, new memory, appends, on abstract values. -/
import Derived.Test.YtchakddenojhdaaDoorAvD
set_option linter.unusedVariables false
set_option linter.unusedSimpArgs false
namespace Go.Av
open Go Go.RowKit

/-- a row of cells is seen as these -/
structure CR (K : Ctx) (cs : List AV) (vs : Array Value) : Prop where
  size : vs.size = cs.length
  one : ∀ c, c ∈ cs → one c = true
  at_ : ∀ j (h : j < cs.length), VR K cs[j] (vs.getD j Go.undef)
theorem CR.mono {K K' : Ctx} (h : K.le K') {cs : List AV} {vs : Array Value} (k : CR K cs vs) : CR K' cs vs := ⟨k.size, k.one, fun j hj => (k.at_ j hj).mono h⟩
theorem CR.cells {K : Ctx} {a : AV} {v : Value} (h : VR K a v) (h1 : isv a = true) : CR K (flat a) v.cells := ⟨(h.cells h1).1, (h.cells h1).2.1, (h.cells h1).2.2⟩

theorem fold_set (off : Nat) : ∀ (l : List Value) (k : Nat) (cells : Array Value),
    ((l.zipIdx k).foldl (fun cs (x : Value × Nat) => cs.setIfInBounds (off + x.2) x.1) cells).size = cells.size ∧
    ∀ i, ((l.zipIdx k).foldl (fun cs (x : Value × Nat) => cs.setIfInBounds (off + x.2) x.1) cells).getD i Go.undef =
      if off + k ≤ i ∧ i < off + k + l.length ∧ i < cells.size then l.getD (i - off - k) Go.undef else cells.getD i Go.undef
  | [], k, cells => ⟨rfl, fun i => by rw [if_neg (by simp; omega)]; rfl⟩
  | c :: l, k, cells => by
    simp only [List.zipIdx_cons, List.foldl_cons]
    obtain ⟨h1, h2⟩ := fold_set off l (k + 1) (cells.setIfInBounds (off + k) c)
    refine ⟨by rw [h1]; simp, fun i => ?_⟩
    rw [h2 i]
    simp only [Array.size_setIfInBounds, List.length_cons]
    by_cases hi : off + (k + 1) ≤ i ∧ i < off + (k + 1) + l.length ∧ i < cells.size
    · rw [if_pos hi, if_pos (by omega), show i - off - k = (i - off - (k + 1)) + 1 by omega]
      rfl
    · rw [if_neg hi]
      by_cases hk : i = off + k
      · subst hk
        by_cases hlt : off + k < cells.size
        · rw [if_pos (by omega), show off + k - off - k = 0 by omega]
          simp [hlt]
        · rw [if_neg (by omega)]
          simp [hlt]
      · rw [if_neg (by omega)]
        simp only [Array.getD_eq_getD_getElem?]
        rw [Array.getElem?_setIfInBounds_ne (Ne.symm hk)]

theorem CR.splice {K : Ctx} {cs xs : List AV} {vs us : Array Value} (h : CR K cs vs) (k : CR K xs us) (off : Nat) (hf : off + xs.length ≤ cs.length) :
    CR K (cs.take off ++ xs ++ cs.drop (off + xs.length)) (us.zipIdx.foldl (fun (cs : Array Value) (x : Value × Nat) => cs.setIfInBounds (off + x.2) x.1) vs) := by
  have e : us.zipIdx.foldl (fun (cs : Array Value) (x : Value × Nat) => cs.setIfInBounds (off + x.2) x.1) vs = (us.toList.zipIdx 0).foldl (fun (cs : Array Value) (x : Value × Nat) => cs.setIfInBounds (off + x.2) x.1) vs := by
    rw [← Array.foldl_toList, Array.toList_zipIdx]
  obtain ⟨h1, h2⟩ := fold_set off us.toList 0 vs
  rw [e]
  refine ⟨by rw [h1, h.size]; simp; omega, fun c hc => ?_, fun j hj => ?_⟩
  · simp only [List.mem_append] at hc
    rcases hc with (hc | hc) | hc
    · exact h.one c (List.mem_of_mem_take hc)
    · exact k.one c hc
    · exact h.one c (List.mem_of_mem_drop hc)
  · rw [h2 j]
    have hus := k.size
    have hvs := h.size
    have hjl : j < cs.length := by simp at hj; omega
    by_cases h3 : off ≤ j ∧ j < off + xs.length
    · rw [if_pos (by simp; omega)]
      have hx : (cs.take off ++ xs ++ cs.drop (off + xs.length))[j] = xs[j - off]'(by omega) := by
        rw [List.getElem_append_left (by simp; omega), List.getElem_append_right (by simp; omega)]
        congr 1; simp; omega
      rw [hx]
      have := k.at_ (j - off) (by omega)
      simpa using this
    · rw [if_neg (by simp; omega)]
      have hx : (cs.take off ++ xs ++ cs.drop (off + xs.length))[j] = cs[j] := by
        by_cases h4 : j < off
        · rw [List.getElem_append_left (by simp; omega), List.getElem_append_left (by simp; omega)]
          simp
        · rw [List.getElem_append_right (by simp; omega), List.getElem_drop]
          congr 1; simp; omega
      rw [hx]
      exact h.at_ j hjl

def afill (place : Nat → Option (Nat × Nat)) (cells : List AV) : List (Nat × AV) → Option (List AV)
  | [] => some cells
  | (i, v) :: rest =>
    match place i with
    | none => none
    | some (off, size) =>
      if isv v = true ∧ (flat v).length = size ∧ off + size ≤ cells.length then afill place (cells.take off ++ flat v ++ cells.drop (off + size)) rest else none

def VRp (K : Ctx) : List (Nat × AV) → List (Nat × Value) → Prop
  | [], [] => True
  | (i, a) :: l, (j, v) :: r => i = j ∧ VR K a v ∧ VRp K l r
  | _, _ => False

theorem afill_sound {K : Ctx} {place : Nat → Option (Nat × Nat)} : ∀ (ps : List (Nat × AV)) (qs : List (Nat × Value)) (cs r : List AV) (vs : Array Value),
    VRp K ps qs → CR K cs vs → afill place cs ps = some r → ∃ us, Instr.fill place vs qs = some us ∧ CR K r us
  | [], [], cs, r, vs, _, hc, h => by
    simp only [afill, Option.some.injEq] at h; subst h
    exact ⟨vs, rfl, hc⟩
  | (i, a) :: ps, (j, v) :: qs, cs, r, vs, ⟨hij, hv, hp⟩, hc, h => by
    subst hij
    unfold afill at h
    split at h
    · cases h
    rename_i off size hpl
    split at h
    · rename_i hx
      obtain ⟨hx1, hx2, hx3⟩ := hx
      have hcv := CR.cells hv hx1
      have hs := hc.splice hcv off (by omega)
      rw [hx2] at hs
      obtain ⟨us, hus, hcr⟩ := afill_sound ps qs _ r _ hp hs h
      refine ⟨us, ?_, hcr⟩
      unfold Instr.fill
      rw [hpl]
      have h1 : v.cells.size = size := by rw [hcv.size, hx2]
      have h2 := hc.size
      simp only [h1, ne_eq, not_true_eq_false, decide_false, Bool.false_or]
      rw [if_neg (by simp; omega)]
      exact hus
    · cases h
  | [], _ :: _, _, _, _, h, _, _ => h.elim
  | _ :: _, [], _, _, _, h, _, _ => h.elim

section tables
variable (P : Program)
def zc (t : TypeId) : Option (List AV) :=
  match (P.info? t).bind (·.zero) with
  | some z => if z.cells.toList.all (fun c => one (ofCell c)) then some (z.cells.toList.map ofCell) else none
  | none => none
def places (t : TypeId) : Option (List (Nat × Nat)) :=
  match P.underlying t with
  | some (.struct fs) => fs.toList.mapM (fun f => (P.info? f.type).map fun i => (f.offset, i.size))
  | _ => none
def by_ (t : TypeId) : Option Nat := (P.info? t).map (·.bytes)
end tables
theorem zc_spec {P : Program} {K : Ctx} {t : TypeId} {cs : List AV} (h : zc P t = some cs) : ∃ i z, P.info? t = some i ∧ i.zero = some z ∧ CR K cs z.cells := by
  unfold zc at h
  split at h
  · rename_i z hz
    cases hi : P.info? t with
    | none => rw [hi] at hz; cases hz
    | some i =>
      rw [hi] at hz
      split at h
      · rename_i h1
        simp only [Option.some.injEq] at h; subst h
        refine ⟨i, z, rfl, hz, by simp, fun c hc => ?_, VR.ofCells K z.cells⟩
        obtain ⟨x, hx, rfl⟩ := List.mem_map.1 hc
        exact List.all_eq_true.1 h1 x hx
      · cases h
  · cases h
theorem run_zc {P : Program} {t : TypeId} {i : TypeInfo} {z : Value} (hi : P.info? t = some i) (hz : i.zero = some z) (w : World) : (zeroValue t).run P w = .ok z w := by
  simp [zeroValue, typeInfo, hi, hz]

def abuild (P : Program) (t : TypeId) (ps : List (Nat × AV)) : Option AV :=
  match places P t, zc P t with
  | some pl, some z => (afill (pl[·]?) z ps).map .agg
  | _, _ => none
theorem abuild_sound {P : Program} {K : Ctx} {w : World} {t : TypeId} {ps : List (Nat × AV)} {r : AV} (h : abuild P t ps = some r) {qs : List (Nat × Value)} (hv : VRp K ps qs) :
    ∃ z, (Instr.build t qs.toArray).run P w = .ok z w ∧ VR K r z := by
  unfold abuild at h
  split at h
  · rename_i pl z hpl hz
    obtain ⟨i, zv, hi, hzv, hcr⟩ := zc_spec (K := K) hz
    cases hf : afill (pl[·]?) z ps with
    | none => rw [hf] at h; cases h
    | some cells =>
      rw [hf] at h
      simp only [Option.map_some, Option.some.injEq] at h; subst h
      obtain ⟨us, hus, hcu⟩ := afill_sound ps qs z cells zv.cells hv hcr hf
      refine ⟨.agg us, run_build w t qs.toArray us ?_, .agg _ _ hcu.size hcu.one hcu.at_⟩
      unfold places at hpl
      split at hpl
      · rename_i fs hu
        unfold Program.built
        simp only [hi, hu, hzv, hpl]
        simpa using hus
      · cases hpl
  · cases h

/-! ### stores -/
def astore (P : Program) (σ : AS) (t : TypeId) (p x : AV) : Option AS :=
  match tk P t, p with
  | some (_, n), .ptr b o => match σ.box b with
    | some cs => if isv x = true ∧ (flat x).length = n ∧ o + n ≤ cs.length then some (σ.setBox b (cs.take o ++ flat x ++ cs.drop (o + n))) else none
    | none => none
  | _, _ => none
theorem astore_sound {P : Program} {G : Nat → AV} {K : Ctx} {σ σ' : AS} {w : World} (hr : Rel G K σ w) {t : TypeId} {p x : AV} (h : astore P σ t p x = some σ') {v u : Value} (hv : VR K p v) (hu : VR K x u) :
    ∃ w', (Instr.storeAt t v u).run P w = .ok () w' ∧ Rel G K σ' w' := by
  unfold astore at h
  split at h
  · rename_i ag n b o hn
    split at h
    · rename_i cs hb
      split at h
      · rename_i hc
        obtain ⟨h1, h2, h3⟩ := hc
        simp only [Option.some.injEq] at h; subst h
        rw [VR.ptr_iff] at hv; subst hv
        obtain ⟨_, hsz, _⟩ := run_tk hn w
        obtain ⟨g1, g2, g3, g4, g5, c, E, hcc, hcs, hcv⟩ := hr.box b cs hb
        have hcu := CR.cells hu h1
        have hus : u.cells.size = n := by rw [hcu.size, h2]
        have h1c : ∀ y, y ∈ u.cells.toList → y.oneCell' = true := by
          intro y hy
          obtain ⟨j, hj, rfl⟩ := List.getElem_of_mem hy
          have hj' : j < (flat x).length := by simpa [hcu.size] using hj
          have := (hcu.at_ j hj').oneCell (hcu.one _ (List.getElem_mem hj'))
          have hjs : j < u.cells.size := by simpa using hj
          simpa [Array.getD, hjs] using this
        have hst := run_storeCells_at P b o E u.cells.toList 0 c w hcc (by simp; omega) h1c
        have hnew : CR K (cs.take o ++ flat x ++ cs.drop (o + n)) (c.toList.take o ++ u.cells.toList ++ c.toList.drop (o + u.cells.size)).toArray := by
          refine ⟨by simp; omega, fun y hy => ?_, fun j hj => ?_⟩
          · simp only [List.mem_append] at hy
            rcases hy with (hy | hy) | hy
            · exact g5 y (List.mem_of_mem_take hy)
            · exact hcu.one y hy
            · exact g5 y (List.mem_of_mem_drop hy)
          · have hjl : j < cs.length := by simp at hj; omega
            simp only [Array.getD_eq_getD_getElem?, List.getElem?_toArray]
            by_cases h4 : j < o
            · rw [List.getElem_append_left (by simp; omega), List.getElem_append_left (by simp; omega)]
              rw [List.getElem?_append_left (by simp; omega), List.getElem?_append_left (by simp; omega)]
              have := hcv j hjl
              simpa [h4, Array.getD_eq_getD_getElem?] using this
            · by_cases h5 : j < o + n
              · rw [List.getElem_append_left (by simp; omega), List.getElem_append_right (by simp; omega)]
                rw [List.getElem?_append_left (by simp; omega), List.getElem?_append_right (by simp; omega)]
                have := hcu.at_ (j - o) (by omega)
                have e1 : min o cs.length = o := by omega
                have e2 : min o c.size = o := by omega
                simpa [e1, e2, Array.getD_eq_getD_getElem?] using this
              · rw [List.getElem_append_right (by simp; omega), List.getElem_drop]
                rw [List.getElem?_append_right (by simp; omega), List.getElem?_drop]
                have e1 : o + n + (j - (List.take o cs ++ flat x).length) = j := by simp; omega
                have e2 : o + u.cells.size + (j - (List.take o c.toList ++ u.cells.toList).length) = j := by simp; omega
                have := hcv j hjl
                simp only [e1, e2]
                simpa [Array.getD_eq_getD_getElem?] using this
        refine ⟨_, ?_, hr.setBox hb _ hnew.size hnew.one hnew.at_⟩
        unfold Instr.storeAt storeVar
        simp only [Nat.add_zero, Array.length_toList] at hst
        simp [Instr.sureAddr, hsz, hus, hst]
      · cases h
    · cases h
  · cases h

/-! ### new variables -/
theorem alloc_sound {P : Program} {G : Nat → AV} {K : Ctx} {σ : AS} {w : World} (hr : Rel G K σ w) {E : TypeId} {z : List AV} (h : zc P E = some z) :
    (Instr.alloc E true (.tuple #[])).run P w = .ok (.pointer (some ⟨w.heap.size, 0, none⟩)) (w.alloc (.cells ((((P.info? E).bind (·.zero)).getD default).cells) E)) ∧
      Rel G K (σ.setBox w.heap.size z) (w.alloc (.cells ((((P.info? E).bind (·.zero)).getD default).cells) E)) := by
  obtain ⟨i, zv, hi, hz, hcr⟩ := zc_spec (K := K) h
  have e : ((P.info? E).bind (·.zero)).getD default = zv := by simp [hi, hz]
  rw [e]
  refine ⟨?_, hr.addBox _ E z hcr.size hcr.one hcr.at_⟩
  unfold Instr.alloc
  simp [run_zc hi hz, newVar, newRow]
theorem box_sound {P : Program} {G : Nat → AV} {K : Ctx} {σ : AS} {w : World} (hr : Rel G K σ w) (E : TypeId) {x : AV} {v : Value} (hv : VR K x v) (h1 : isv x = true) :
    (Instr.box E v).run P w = .ok (.pointer (some ⟨w.heap.size, 0, none⟩)) (w.alloc (.cells v.cells E)) ∧ Rel G K (σ.setBox w.heap.size (flat x)) (w.alloc (.cells v.cells E)) := by
  have hcr := CR.cells hv h1
  refine ⟨?_, hr.addBox _ E _ hcr.size hcr.one hcr.at_⟩
  unfold Instr.box
  simp [newVar, newRow]

/-! ### new rows that nobody writes any more -/
theorem Rel.addImm {G : Nat → AV} {K : Ctx} {σ : AS} {w : World} (h : Rel G K σ w) (c : Array Value) (E : TypeId) :
    ∃ K', K.le K' ∧ Rel G K' σ (w.alloc (.cells c E)) ∧ (∀ o, o < c.size → K'.imm w.heap.size o = some (c.getD o Go.undef)) ∧ K'.row = K.row := by
  have h' := h.alloc (.cells c E)
  have hf := h.fresh (Nat.le_refl w.heap.size)
  obtain ⟨k1, k2⟩ := h'.keep w.heap.size (fun _ => true) hf.1 (fun n s hn => by rw [hf.2] at hn; cases hn)
  refine ⟨_, k1, k2, fun o ho => ?_, rfl⟩
  show (if w.heap.size = w.heap.size ∧ true = true then (w.alloc (.cells c E)).cell? ⟨w.heap.size, o, none⟩ else K.imm w.heap.size o) = _
  rw [if_pos ⟨rfl, rfl⟩, World.cell?_alloc_new]
  simp [ho]

/-- rows of items one behind the other -/
theorem afill_seq {n : Nat} : ∀ (xs : List AV) (k : Nat) (cells : List AV), (∀ a, a ∈ xs → isv a = true ∧ (flat a).length = n) → (k + xs.length) * n ≤ cells.length →
    afill (fun i => some (i * n, n)) cells ((List.range' k xs.length).zip xs) = some (cells.take (k * n) ++ xs.flatMap flat ++ cells.drop ((k + xs.length) * n))
  | [], k, cells, _, _ => by simp [afill]
  | x :: xs, k, cells, h, hl => by
    obtain ⟨h1, h2⟩ := h x (by simp)
    simp only [List.length_cons] at hl ⊢
    simp only [List.range'_succ, List.zip_cons_cons, afill]
    have e0 : (k + (xs.length + 1)) * n = (k + 1 + xs.length) * n := by rw [show k + (xs.length + 1) = k + 1 + xs.length by omega]
    have e1 : k * n + n ≤ (k + (xs.length + 1)) * n := by rw [← Nat.succ_mul]; exact Nat.mul_le_mul_right _ (by omega)
    rw [if_pos ⟨h1, h2, by omega⟩]
    have hlen : (cells.take (k * n) ++ flat x ++ cells.drop (k * n + n)).length = cells.length := by simp; omega
    rw [afill_seq xs (k + 1) _ (fun a ha => h a (by simp [ha])) (by rw [hlen]; omega)]
    congr 1
    have e2 : (k + 1) * n = k * n + n := Nat.succ_mul k n
    have e3 : k * n + n ≤ (k + 1 + xs.length) * n := by rw [← e0]; exact e1
    have t1 : (cells.take (k * n) ++ flat x ++ cells.drop (k * n + n)).take ((k + 1) * n) = cells.take (k * n) ++ flat x := by
      rw [List.take_append_of_le_length (by simp; omega), List.take_of_length_le (by simp; omega)]
    have t2 : (cells.take (k * n) ++ flat x ++ cells.drop (k * n + n)).drop ((k + 1 + xs.length) * n) = cells.drop ((k + (xs.length + 1)) * n) := by
      rw [List.drop_append, List.drop_eq_nil_of_le (by simp; omega), List.nil_append, List.drop_drop]
      congr 1
      rw [e0]; simp; omega
    rw [t1, t2, List.flatMap_cons]
    simp [List.append_assoc]

def abuildSlice (P : Program) (t : TypeId) (len : Nat) (ps : List (Nat × AV)) : Option AV :=
  match el P t with
  | some e => match tk P e with
    | some (_, n) =>
      match by_ P e with
      | some _ =>
      if ps.map (·.1) = List.range len ∧ (ps.map (·.2)).all (fun a => isv a && decide ((flat a).length = n)) = true ∧ len * n ≤ 16777216 ∧ 0 < n ∧ (zc P e).map List.length = some n then some (.sl .full (ps.map (·.2)) []) else none
      | none => none
    | none => none
  | none => none
end Go.Av
