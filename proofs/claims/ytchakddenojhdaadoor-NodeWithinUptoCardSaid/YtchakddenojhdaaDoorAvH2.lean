/- Slices made by make, bytes of texts, texts of bytes, on abstract values. -/
import Derived.Test.YtchakddenojhdaaDoorAvH
set_option linter.unusedVariables false
set_option linter.unusedSimpArgs false
namespace Go.Av
open Go Go.RowKit

/-- make([]T, 0, c) -/
def amake (P : Program) (σ : AS) (t : TypeId) (l c : AV) (K : AV → AS → Prop) : Prop :=
  match aelt P t, l, c with
  | some (_, n, by_), .int _ l, .int _ c => l = 0 ∧ 0 ≤ c ∧ c * by_ ≤ 140737488355328 ∧ ∀ b, σ.fresh b → K (.sl (.own b) [] []) (σ.setTip b (0, n))
  | _, _, _ => False
set_option maxRecDepth 8000 in
theorem amake_sound {P : Program} {G : Nat → AV} {K : Ctx} {σ : AS} {w : World} (hr : Rel G K σ w) {t : TypeId} {l c : AV} {Kc : AV → AS → Prop} (h : amake P σ t l c Kc) {v u : Value} (hv : VR K l v) (hu : VR K c u) :
    ∃ z w' K' r σ', (Instr.makeSlice t v u).run P w = .ok z w' ∧ K.le K' ∧ Rel G K' σ' w' ∧ VR K' r z ∧ Kc r σ' := by
  unfold amake at h
  split at h
  case h_2 => exact h.elim
  rename_i e n by_ k l k' c hel
  obtain ⟨rfl, h0, hby, hK⟩ := h
  rw [VR.int_iff] at hv hu; subst hv hu
  obtain ⟨ht, i, z, hi, hz, hsz, hbb, hzs, hn0, hb0, _⟩ := aelt_spec (K := K) hel
  obtain ⟨m, rfl⟩ := Int.eq_ofNat_of_zero_le h0
  have hmb : m * by_ ≤ 140737488355328 := by
    have h := hby
    rw [← Int.natCast_mul] at h
    omega
  have hm1 : m ≤ 140737488355328 := by
    have : m * 1 ≤ m * by_ := Nat.mul_le_mul_left _ hb0
    omega
  have hw1 : IntKind.i64.wrap (m : Int) = m := by rw [IntKind.wrap_i64]; omega
  have hw0 : IntKind.i64.wrap 0 = 0 := by rw [IntKind.wrap_i64]; omega
  have hbm : ¬ ((by_ : Int) * (m : Int) > 2 ^ 48) := by
    have : (by_ * m : Nat) ≤ 140737488355328 := by rw [Nat.mul_comm]; exact hmb
    have h2 : ((by_ * m : Nat) : Int) ≤ 140737488355328 := by omega
    rw [Int.natCast_mul] at h2
    have : (2 : Int) ^ 48 = 281474976710656 := by decide
    omega
  have hsize : ((Array.range (m * n)).map (z.cells[· % z.cells.size]!)).size = m * n := by simp
  obtain ⟨K', hle, hrel, hrow, himm⟩ := hr.addRow ((Array.range (m * n)).map (z.cells[· % z.cells.size]!)) e m n 0 hsize (Nat.zero_le _) (by unfold maxLen; omega)
  have hvr := VR.sl_row (K := K') (g := .own w.heap.size) (xs := []) (n := n) (b := w.heap.size) (cap := m) (c := #[]) (fun a ha => by cases ha) (Nat.zero_le _) (by unfold maxLen; omega) (fun o ho => by simp at ho) (fun j hj => by cases hj) ⟨rfl, rfl, e, n, hrow⟩
  refine ⟨_, _, K', _, _, ?_, hle, hrel, hvr, hK _ (hr.fresh (Nat.le_refl _))⟩
  unfold Instr.makeSlice
  have h48 : ¬ ((281474976710656 : Int) < (by_ : Int) * (m : Int)) := by
    have : (2 : Int) ^ 48 = 281474976710656 := by decide
    omega
  by_cases hm0 : m * n = 0
  · have hm00 : m = 0 := by rcases Nat.mul_eq_zero.1 hm0 with h | h <;> omega
    subst hm00
    have ez : ∀ (f g : Nat → Value), (Array.range 0).map f = (Array.range 0).map g := fun f g => by apply Array.ext'; simp
    simp [run_underlying ht, asInt, asIntOf, typeInfo, hi, hw0, hbb, newRow, sizeOf, hsz]
    exact congrArg (fun c => w.alloc (Obj.cells c e)) (ez _ _)
  · simp only [Sem.run_bind, run_underlying ht, asInt, asIntOf, Sem.run_pure, Result.andThen_ok, typeInfo, hi, run_program, hw1, hw0, hbb]
    have hlt : ¬ ((m : Int) < 0) := by omega
    simp [hlt, h48, sizeOf, typeInfo, hi, hsz, hm0, run_zc hi hz, newRow]

/-- []byte(s) -/
theorem conv_bytes {P : Program} {G : Nat → AV} {K : Ctx} {σ : AS} {w : World} (hr : Rel G K σ w) {s d e : TypeId} (hs : (P.underlying s).isSome = true) (hd : el P d = some e) (he : sk P e = .int .u8) (l : List UInt8) (hl : l.length ≤ maxLen) :
    ∃ z w' K', (convert s d (.string ⟨⟨l⟩⟩)).run P w = .ok z w' ∧ K.le K' ∧ Rel G K' σ w' ∧ VR K' (.sl .none (l.map fun c => .int .u8 c.toNat) []) z := by
  obtain ⟨u, hu⟩ := Option.isSome_iff_exists.1 hs
  have hsz : (ByteArray.mk (Array.mk l)).size = l.length := rfl
  have hge : l.length ≤ grownCap w l.length 0 e := grownCap_ge w l.length 0 e
  have hcm : grownCap w l.length 0 e ≤ maxLen := grownCap_le_maxLen w _ 0 e hl
  obtain ⟨cap, hcap⟩ : ∃ cap, cap = grownCap w l.length 0 e := ⟨_, rfl⟩
  rw [← hcap] at hge hcm
  let c : Array Value := ((ByteArray.mk (Array.mk l)).data.map fun b => Value.int .u8 b.toNat) ++ Array.replicate (cap - l.length) (.int .u8 0)
  obtain ⟨K', hle, hrel, himm, hrw⟩ := hr.drew.addImm c e
  have hcs : c.size = cap := by simp [c]; omega
  have hget : ∀ j (h : j < l.length), c.getD j Go.undef = .int .u8 l[j].toNat := by
    intro j h
    have h1 : j < ((ByteArray.mk (Array.mk l)).data.map fun b => Value.int .u8 b.toNat).size := by simpa using h
    simp only [c, Array.getD_eq_getD_getElem?]
    rw [Array.getElem?_append_left h1]
    simp [h]
  have hvr : VR K' (.sl .none (l.map fun c => .int .u8 c.toNat) []) (.slice (some ⟨w.drew.heap.size, 0, none⟩) (l.map fun c => AV.int .u8 c.toNat).length cap) := by
    refine VR.sl_row (n := 1) (c := c) (fun a ha => ?_) (by simpa using hge) hcm (fun o ho => himm o (by rw [hcs]; simp at ho; omega)) (fun j hj => ?_) trivial
    · obtain ⟨x, _, rfl⟩ := List.mem_map.1 ha
      exact ⟨rfl, rfl, fun y hy => by simp [flat] at hy; subst hy; rfl⟩
    · have hj' : j < l.length := by rw [flat_bytes] at hj; simpa using hj
      rw [hget j hj']
      have : ((l.map fun c => AV.int .u8 c.toNat).flatMap flat)[j] = AV.int .u8 l[j].toNat := by
        have h2 : ((l.map fun c => AV.int .u8 c.toNat).flatMap flat)[j]? = (l.map fun c => AV.int .u8 c.toNat)[j]? := by rw [flat_bytes]
        rw [List.getElem?_eq_getElem hj] at h2
        simpa [hj'] using h2
      rw [this]; exact .int _ _
  simp only [List.length_map] at hvr
  -- the mark behind the row's end turns nothing that is seen
  have hfreeze : ∀ b k, K'.base ≤ b → Rel G K' σ (w.drew.alloc (.cells c e)) → K'.row b = none → σ.box b = none → Rel G K' σ ((w.drew.alloc (.cells c e)).freeze ⟨b, k, none⟩ 1) := by
    intro b k hbase h hrow hbox
    have hold : ∀ i, i ≠ b → ((w.drew.alloc (.cells c e)).freeze ⟨b, k, none⟩ 1).heap[i]? = (w.drew.alloc (.cells c e)).heap[i]? := fun i hi => by
      simp [World.freeze, Array.getElem?_modify, Ne.symm hi]
    have hcell : ∀ a : Addr, ((w.drew.alloc (.cells c e)).freeze ⟨b, k, none⟩ 1).cell? a = (w.drew.alloc (.cells c e)).cell? a := by
      intro a
      by_cases hab : a.block = b
      · simp only [World.cell?, World.freeze, Nat.one_ne_zero, if_false, Array.getElem?_modify, hab, if_true]
        cases (w.drew.alloc (.cells c e)).heap[b]? with
        | none => rfl
        | some o => cases o <;> rfl
      · exact World.cell?_of_block (hold _ hab)
    have hsize : ((w.drew.alloc (.cells c e)).freeze ⟨b, k, none⟩ 1).heap.size = (w.drew.alloc (.cells c e)).heap.size := by simp [World.freeze]
    have htip : σ.tip b = none := by
      cases ht : σ.tip b with
      | none => rfl
      | some x => obtain ⟨_, cp, E, hrr, _⟩ := h.tip b x.1 x.2 ht; rw [hrow] at hrr; cases hrr
    refine ⟨fun i o v hv => by rw [hcell]; exact h.imm _ _ _ hv, fun i cp s' E hi => ?_, fun i cs hi => ?_, h.tip, h.glob, ?_, by rw [hsize]; exact h.bs⟩
    · have hne : i ≠ b := by rintro rfl; rw [hrow] at hi; cases hi
      obtain ⟨cu, h1, h2⟩ := h.row i cp s' E hi
      exact ⟨cu, by rw [hold i hne]; exact h1, h2⟩
    · have hne : i ≠ b := by rintro rfl; rw [hbox] at hi; cases hi
      obtain ⟨k1, k2, k3, k4, k5, d, F, hd, hx⟩ := h.box i cs hi
      exact ⟨k1, k2, k3, k4, k5, d, F, by rw [hold i hne]; exact hd, hx⟩
    · exact h.below.trans ⟨rfl, rfl, rfl, by rw [hsize]; exact Nat.le_refl _, fun i hi => hold i (by omega)⟩
  have hb1 : K'.base ≤ w.drew.heap.size := by rw [hle.base]; exact hr.bs
  have hrow1 : K'.row w.drew.heap.size = none := by rw [hrw]; exact hr.drew.row_none (Nat.le_refl _)
  have hfin := hfreeze w.drew.heap.size c.size hb1 hrel hrow1 (hr.fresh (Nat.le_refl _)).1
  refine ⟨_, _, K', ?_, hle, hfin, hvr⟩
  unfold convert
  have key : (Conv.stringToBytes e ⟨⟨l⟩⟩).run P w = .ok (.slice (some ⟨w.drew.heap.size, 0, none⟩) l.length cap) ((w.drew.alloc (.cells c e)).freeze ⟨w.drew.heap.size, c.size, none⟩ 1) := by
    unfold Conv.stringToBytes
    have h1 : (choose (.appendCap l.length 0 e)).run P w = .ok cap w.drew := by
      rw [hcap]
      simp [grownCap, Question.forced]
    simp only [hsz, Sem.run_bind, h1, Result.andThen_ok, newRow, run_newObj, World.alloc_eq, Sem.run_pure]
    have h2 : ((w.drew.alloc (.cells c e)).shape? w.drew.heap.size) = some (e, c.size) := by
      have hx := heap_alloc_new w.drew (Obj.cells c e)
      simp only [World.shape?]
      rw [hx]
    have h3 : (markStringish ⟨w.drew.heap.size, 0, none⟩).run P (w.drew.alloc (.cells c e)) = .ok () ((w.drew.alloc (.cells c e)).freeze ⟨w.drew.heap.size, c.size, none⟩ 1) := by
      unfold markStringish
      simp only [Sem.run_bind, run_shape, h2, Result.andThen_ok]
      rfl
    simp only [c] at h3 ⊢
    rw [h3]
    rfl
  cases u <;> simp only [Sem.run_bind, run_underlying hu, run_underlying (run_el hd), run_underlying (sk_int he), Result.andThen_ok] <;> exact key

/-- a conversion; of a text to bytes too -/
def aconvW (P : Program) (s d : TypeId) (x : AV) : Option AV :=
  match x with
  | .str l => if sk P d = .str then aconv P s d x
      else if (P.underlying s).isSome && ((el P d).any fun e => decide (sk P e = .int .u8)) && decide (l.length ≤ maxLen) then some (.sl .none (l.map fun c => .int .u8 c.toNat) []) else none
  | _ => aconv P s d x
theorem aconvW_sound {P : Program} {G : Nat → AV} {K : Ctx} {σ : AS} {w : World} (hr : Rel G K σ w) {s d : TypeId} {x r : AV} (h : aconvW P s d x = some r) {v : Value} (hv : VR K x v) :
    ∃ z w' K', (convert s d v).run P w = .ok z w' ∧ K.le K' ∧ Rel G K' σ w' ∧ VR K' r z := by
  have old : aconv P s d x = some r → ∃ z w' K', (convert s d v).run P w = .ok z w' ∧ K.le K' ∧ Rel G K' σ w' ∧ VR K' r z := fun h => by
    obtain ⟨z, h1, h2⟩ := aconv_sound (w := w) h hv
    exact ⟨z, w, K, h1, Ctx.le.refl K, hr, h2⟩
  unfold aconvW at h
  split at h
  · rename_i l
    split at h
    · exact old h
    · split at h
      · rename_i hc
        simp only [Bool.and_eq_true, decide_eq_true_eq, Option.any_eq_true] at hc
        obtain ⟨⟨h1, e, h2, h3⟩, h4⟩ := hc
        simp only [Option.some.injEq] at h; subst h
        rw [VR.str_iff] at hv; subst hv
        exact conv_bytes hr h1 h2 h3 l h4
      · cases h
  · exact old h
end Go.Av
