/- Slices written out, made, appended to; bytes and strings: on abstract values. -/
import Derived.Test.YtchakddenojhdaaDoorAvE
set_option linter.unusedVariables false
set_option linter.unusedSimpArgs false
namespace Go.Av
open Go Go.RowKit

theorem zip_fst_snd {α β : Type} : ∀ (l : List (α × β)), (l.map (·.1)).zip (l.map (·.2)) = l
  | [] => rfl
  | x :: l => by simp [zip_fst_snd l]

theorem zeros_CR {K : Ctx} {z : List AV} {zv : Array Value} (h : CR K z zv) (m : Nat) (h0 : 0 < zv.size) :
    CR K ((List.range m).map fun i => z.getD (i % zv.size) .undef) ((Array.range m).map (zv[· % zv.size]!)) := by
  have hs := h.size
  refine ⟨by simp, fun c hc => ?_, fun j hj => ?_⟩
  · obtain ⟨i, _, rfl⟩ := List.mem_map.1 hc
    have hlt : i % zv.size < z.length := by rw [← hs]; exact Nat.mod_lt _ h0
    rw [List.getD_eq_getElem?_getD, List.getElem?_eq_getElem hlt]
    exact h.one _ (List.getElem_mem hlt)
  · have hjm : j < m := by simpa using hj
    have hlt : j % zv.size < z.length := by rw [← hs]; exact Nat.mod_lt _ h0
    have hlt' : j % zv.size < zv.size := Nat.mod_lt _ h0
    have := h.at_ _ hlt
    simp only [Array.getD_eq_getD_getElem?] at this ⊢
    simp only [List.getElem_map, List.getElem_range, List.getD_eq_getElem?_getD, List.getElem?_eq_getElem hlt, Option.getD_some]
    simpa [hjm, hlt'] using this

/-- a row of items that lies at the head of a row nobody writes any more -/
theorem VR.sl_row {K : Ctx} {g : Gh} {xs : List AV} {n b cap : Nat} {c : Array Value} (hx : ∀ a, a ∈ xs → (flat a).length = n ∧ isv a = true ∧ ∀ c, c ∈ flat a → one c = true)
    (hcap : xs.length ≤ cap) (hml : cap ≤ maxLen) (himm : ∀ o, o < xs.length * n → K.imm b o = some (c.getD o Go.undef))
    (hv : ∀ j (h : j < (xs.flatMap flat).length), VR K (xs.flatMap flat)[j] (c.getD j Go.undef)) (hg : g.ok K b 0 xs.length cap) :
    VR K (.sl g xs []) (.slice (some ⟨b, 0, none⟩) xs.length cap) := by
  have hl := flatMap_length (sz := n) xs (fun e he => (hx e he).1)
  refine .sl g xs [] n b 0 cap (fun j => c.getD j Go.undef) (fun e he => hx e (by simpa using he)) (by simpa using hcap) hml (fun j hj => ?_) (fun j hj => ?_) hg
  · simp only [List.append_nil] at hj
    rw [Nat.zero_add]; exact himm j (by omega)
  · have hj' : j < (xs.flatMap flat).length := by simpa using hj
    have := hv j hj'
    simpa using this

theorem abuildSlice_sound {P : Program} {G : Nat → AV} {K : Ctx} {σ : AS} {w : World} (hr : Rel G K σ w) {t : TypeId} {len : Nat} {ps : List (Nat × AV)} {r : AV} (h : abuildSlice P t len ps = some r)
    {qs : List (Nat × Value)} (hv : VRp K ps qs) :
    ∃ z w' K', (Instr.buildSlice t len qs.toArray).run P w = .ok z w' ∧ K.le K' ∧ Rel G K' σ w' ∧ VR K' r z := by
  unfold abuildSlice at h
  split at h
  case h_2 => cases h
  rename_i e he
  split at h
  case h_2 => cases h
  rename_i ag n hn
  split at h
  case h_2 => cases h
  split at h
  case isFalse => cases h
  rename_i hc
  obtain ⟨hc1, hc2, hc3, hc4, hc5⟩ := hc
  simp only [Option.some.injEq] at h; subst h
  obtain ⟨z, hz, hzl⟩ := Option.map_eq_some_iff.1 hc5
  obtain ⟨i, zv, hi, hzv, hcr⟩ := zc_spec (K := K) hz
  obtain ⟨_, hsz, hsz2⟩ := run_tk hn w
  have hzn : zv.cells.size = n := by rw [hcr.size, hzl]
  have hlen : (ps.map (·.2)).length = len := by
    have := congrArg List.length hc1; simpa using this
  have hall : ∀ a, a ∈ ps.map (·.2) → isv a = true ∧ (flat a).length = n := by
    intro a ha
    have := List.all_eq_true.1 hc2 a ha
    simpa using this
  have hps : ps = (List.range' 0 (ps.map (·.2)).length).zip (ps.map (·.2)) := by
    conv => lhs; rw [← zip_fst_snd ps]
    rw [hc1, hlen, List.range_eq_range']
  have hz0 := zeros_CR hcr (len * n) (by omega)
  have hfill := afill_seq (n := n) (ps.map (·.2)) 0 ((List.range (len * n)).map fun i => z.getD (i % zv.cells.size) .undef) hall (by rw [hlen]; simp)
  rw [← hps] at hfill
  obtain ⟨us, hus, hcu⟩ := afill_sound ps qs _ _ _ hv hz0 hfill
  have hflen := flatMap_length (sz := n) (ps.map (·.2)) (fun a ha => (hall a ha).2)
  have hcells : (((List.range (len * n)).map fun i => z.getD (i % zv.cells.size) .undef).take (0 * n) ++ (ps.map (·.2)).flatMap flat ++ ((List.range (len * n)).map fun i => z.getD (i % zv.cells.size) .undef).drop ((0 + (ps.map (·.2)).length) * n)) = (ps.map (·.2)).flatMap flat := by
    have hpl : ps.length = len := by simpa using hlen
    rw [Nat.zero_mul, List.take_zero, List.nil_append, List.drop_eq_nil_of_le (by simp [hpl]), List.append_nil]
  rw [hcells] at hcu
  obtain ⟨K', hK, hrel, himm, _⟩ := hr.addImm us e
  have hsize : us.size = len * n := by rw [hcu.size, hflen, hlen]
  have hlml : len ≤ maxLen := by
    unfold maxLen
    have : len * 1 ≤ len * n := Nat.mul_le_mul_left _ hc4
    omega
  refine ⟨.slice (some ⟨w.heap.size, 0, none⟩) len len, _, K', ?_, hK, hrel, ?_⟩
  · unfold Instr.buildSlice
    have hz1 : ¬ (len * n > 2 ^ 24) := by omega
    simp only [Sem.run_bind, run_underlying (run_el he), hsz, Result.andThen_ok, if_neg hz1]
    by_cases h0 : len * n = 0
    · have hl0 : len = 0 := by
        rcases Nat.mul_eq_zero.1 h0 with h | h
        · exact h
        · omega
      subst hl0
      have hp0 : ps = [] := by
        have : ps.length = 0 := by simpa using hlen
        exact List.eq_nil_of_length_eq_zero this
      subst hp0
      cases qs with
      | cons => exact hv.elim
      | nil =>
        simp only [Instr.fill, Option.some.injEq] at hus
        subst hus
        have ez : ∀ (f g : Nat → Value), (Array.range 0).map f = (Array.range 0).map g := fun f g => by apply Array.ext' ; simp
        simp [Instr.fill, newRow]
        exact congrArg (fun c => w.alloc (Obj.cells c e)) (ez _ _)
    · simp only [if_neg h0, Sem.run_bind, run_zc hi hzv, Result.andThen_ok, Sem.run_pure, hus, newRow]
      simp
  · have := VR.sl_row (K := K') (g := .full) (xs := ps.map (·.2)) (n := n) (b := w.heap.size) (cap := (ps.map (·.2)).length) (c := us)
      (fun a ha => ⟨(hall a ha).2, (hall a ha).1, fun c hcm => hcu.one c (List.mem_flatMap.2 ⟨a, ha, hcm⟩)⟩) (Nat.le_refl _)
      (by rw [hlen]; exact hlml)
      (fun o ho => himm o (by rw [hsize, ← hlen]; exact ho)) (fun j hj => (hcu.at_ j hj).mono hK) (by simp [Gh.ok])
    rw [hlen] at this
    exact this

/-! ### appends -/
/-- what the second argument of an append yields -/
def asrc (P : Program) (t : TypeId) : AV → Option (List AV)
  | .sl _ ys _ => if (el P t).isSome then some ys else none
  | .nil => if (el P t).isSome then some [] else none
  | .str s => if sk P t = .str then some (s.map fun c => .int .u8 c.toNat) else none
  | _ => none

def valsOf (f : Nat → Value) (n : Nat) : List Value := (List.range n).map f
theorem valsOf_getD (f : Nat → Value) (n j : Nat) (h : j < n) (d : Value) : (valsOf f n).getD j d = f j := by
  simp [valsOf, h]
theorem flat_bytes (s : List UInt8) : (s.map fun c => AV.int .u8 c.toNat).flatMap flat = s.map fun c => AV.int .u8 c.toNat := by
  induction s with
  | nil => rfl
  | cons c s ih => rw [List.map_cons, List.flatMap_cons, ih]; rfl

theorem asrc_sound {P : Program} {G : Nat → AV} {K : Ctx} {σ : AS} {w : World} (hr : Rel G K σ w) {t : TypeId} {x : AV} {ys : List AV} (h : asrc P t x = some ys) {n : Nat}
    (hn : ∀ a, a ∈ ys → (flat a).length = n) {v : Value} (hv : VR K x v) :
    ∃ news : List Value, Src P n t v ys.length news w ∧ news.length = (ys.flatMap flat).length ∧ (∀ a, a ∈ ys → isv a = true ∧ ∀ c, c ∈ flat a → one c = true) ∧
      ∀ j (hj : j < (ys.flatMap flat).length), VR K (ys.flatMap flat)[j] (news.getD j Go.undef) := by
  unfold asrc at h
  have hfl := flatMap_length (sz := n) ys hn
  split at h
  · rename_i g ys' sp
    split at h
    · rename_i hs
      obtain ⟨e, he⟩ := Option.isSome_iff_exists.1 hs
      simp only [Option.some.injEq] at h; subst h
      cases hv with
      | sl0 a =>
        refine ⟨[], ?_, rfl, (fun _ h => by cases h), (fun j hj => by cases hj)⟩
        cases a with
        | none => exact Src.ofNil w (run_el he) 0
        | some a => exact Src.ofSlice w (run_el he) a 0 0 [] (by simp) (fun j u h => by simp at h) (fun u h => by cases h)
      | sl _ _ _ sz b off cap f hsz hcap hml himm hvv hg =>
        have hle : (ys'.flatMap flat).length ≤ ((ys' ++ sp).flatMap flat).length := by simp
        have hgetf : ∀ j (hj : j < (ys'.flatMap flat).length), ((ys' ++ sp).flatMap flat)[j]'(by omega) = (ys'.flatMap flat)[j] := by
          intro j hj
          simp only [List.flatMap_append]
          rw [List.getElem_append_left hj]
        have hone : ∀ u, u ∈ valsOf f (ys'.flatMap flat).length → u.oneCell' = true := by
          intro u hu
          obtain ⟨j, hj, rfl⟩ := List.mem_map.1 hu
          have hj' : j < (ys'.flatMap flat).length := by simpa using hj
          have h1 := hvv j (by omega)
          rw [hgetf j hj'] at h1
          refine h1.oneCell ?_
          obtain ⟨a, ha, hca⟩ := List.mem_flatMap.1 (List.getElem_mem hj')
          exact (hsz a (List.mem_append_left _ ha)).2.2 _ hca
        refine ⟨valsOf f (ys'.flatMap flat).length, Src.ofSlice w (run_el he) ⟨b, off, none⟩ ys'.length cap _ (by simp [valsOf, hfl]) (fun j u hu => ?_) hone, by simp [valsOf], fun a ha => (hsz a (List.mem_append_left _ ha)).2, fun j hj => ?_⟩
        · obtain ⟨hj, rfl⟩ := List.getElem?_eq_some_iff.1 hu
          have hj' : j < (ys'.flatMap flat).length := by simpa [valsOf] using hj
          rw [Addr.add_lit]
          simp only [valsOf, List.getElem_map, List.getElem_range]
          exact hr.imm _ _ _ (himm j (by omega))
        · have h1 := hvv j (by omega)
          rw [hgetf j hj] at h1
          rw [valsOf_getD f _ j hj]; exact h1
    · cases h
  · split at h
    · rename_i hs
      obtain ⟨e, he⟩ := Option.isSome_iff_exists.1 hs
      simp only [Option.some.injEq] at h; subst h
      rw [VR.nil_iff] at hv; subst hv
      exact ⟨[], Src.ofNil w (run_el he) 0, rfl, (fun _ h => by cases h), (fun j hj => by cases hj)⟩
    · cases h
  · rename_i s
    split at h
    · rename_i hs
      simp only [Option.some.injEq] at h
      rw [VR.str_iff] at hv; subst hv
      have hb : byteCells ⟨⟨s⟩⟩ = s.map (fun c => Value.int .u8 c.toNat) := rfl
      have hf1 : ys.flatMap flat = ys := by
        subst h
        exact flat_bytes s
      subst h
      have hn1 : n = 1 ∨ s = [] := by
        cases s with
        | nil => exact .inr rfl
        | cons c s => left; have := hn (.int .u8 c.toNat) (by simp); simpa [flat] using this.symm
      rw [hf1]
      refine ⟨byteCells ⟨⟨s⟩⟩, ?_, by simp [hb], fun a ha => by obtain ⟨c, _, rfl⟩ := List.mem_map.1 ha; exact ⟨rfl, fun y hy => by simp [flat] at hy; subst hy; rfl⟩, fun j hj => ?_⟩
      · have hsz : (ByteArray.mk (Array.mk s)).size = (s.map fun c => AV.int .u8 c.toNat).length := by simp; rfl
        rcases hn1 with rfl | rfl
        · rw [← hsz]; exact Src.ofString w (sk_str hs) ⟨⟨s⟩⟩
        · exact ⟨.inr (sk_str hs), fun _ => rfl, by simp [Builtin.firstCells, byteCells], by simp [Builtin.firstCells, byteCells], by simp [byteCells], fun u hu => by simp [byteCells] at hu⟩
      · have hjs : j < s.length := by simpa using hj
        rw [hb]
        simpa [hjs] using VR.int (K := K) .u8 s[j].toNat
    · cases h
  · cases h
end Go.Av
