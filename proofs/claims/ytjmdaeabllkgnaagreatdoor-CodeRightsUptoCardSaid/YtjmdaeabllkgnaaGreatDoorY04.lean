/- Slices made by make, bytes of texts, texts of bytes, on abstract values. -/
import Derived.Test.YtjmdaeabllkgnaaGreatDoorY03
set_option linter.unusedVariables false
set_option linter.unusedSimpArgs false
namespace Go.Av
open Go Go.RowKit
def amake (P : Program) (σ : AS) (t : TypeId) (l c : AV) (K : AV -> AS -> Prop) : Prop :=
 match aelt P t, l, c with
 | some (_, n, by_), .int _ l, .int _ c => l = 0 /\ 0 <= c /\ c * by_ <= 140737488355328 /\ ∀ b, σ.fresh b -> K (.sl (.own b) [] []) (σ.setTip b (0, n))
 | _, _, _ => False
set_option maxRecDepth 8000 in
theorem amake_sound {P : Program} {G : Nat -> AV} {K : Ctx} {σ : AS} {w : World} (hr : Rel G K σ w) {t : TypeId} {l c : AV} {Kc : AV -> AS -> Prop} (h : amake P σ t l c Kc) {v u : Value} (hv : VR K l v) (hu : VR K c u) :
  ∃ z w' K' r σ', (Instr.makeSlice t v u).run P w = .ok z w' /\ K.le K' /\ Rel G K' σ' w' /\ VR K' r z /\ Kc r σ' := by
 unfold amake at h
 split at h
 case h_2 => exact h.elim
 rename_i e n by_ k l k' c hel
 obtain ⟨rfl, h0, hby, hK⟩ := h
 rw [VR.int_iff] at hv hu; subst hv hu
 obtain ⟨ht, i, z, hi, hz, hsz, hbb, hzs, hn0, hb0, _⟩ := aelt_spec (K := K) hel
 obtain ⟨m, rfl⟩ := Int.eq_ofNat_of_zero_le h0
 have hmb : m * by_ <= 140737488355328 := by
  have h := hby
  rw [<- Int.natCast_mul] at h
  omega
 have hm1 : m <= 140737488355328 := by
  have : m * 1 <= m * by_ := Nat.mul_le_mul_left _ hb0
  omega
 have hw1 : IntKind.i64.wrap (m : Int) = m := by rw [IntKind.wrap_i64]; omega
 have hw0 : IntKind.i64.wrap 0 = 0 := by rw [IntKind.wrap_i64]; omega
 have hbm : ¬ ((by_ : Int) * (m : Int) > 2 ^ 48) := by
  have : (by_ * m : Nat) <= 140737488355328 := by rw [Nat.mul_comm]; exact hmb
  have h2 : ((by_ * m : Nat) : Int) <= 140737488355328 := by omega
  rw [Int.natCast_mul] at h2
  have : (2 : Int) ^ 48 = 281474976710656 := by decide
  omega
 have hsize : ((Array.range (m * n)).map (z.cells[· % z.cells.size]!)).size = m * n := by simp
 obtain ⟨K', hle, hrel, hrow, himm⟩ := hr.addRow ((Array.range (m * n)).map (z.cells[· % z.cells.size]!)) e m n 0 hsize (Nat.zero_le _) (by unfold maxLen; omega)
 have hvr := VR.sl_row (K := K') (g := .own w.heap.size) (xs := []) (n := n) (b := w.heap.size) (cap := m) (c := #[]) (fun a ha => by cases ha) (Nat.zero_le _) (by unfold maxLen; omega) (fun o ho => by simp at ho) (fun j hj => by cases hj) ⟨rfl, rfl, e, n, hrow⟩
 refine ⟨_, _, K', _, _, ?_, hle, hrel, hvr, hK _ (hr.fresh (Nat.le_refl _))⟩
 unfold Instr.makeSlice
 have h48 : ¬ ((281474976710656 : Int) < (by_ : Int) * (m : Int)) := by
  have : (2 : Int) ^ 48 = 281474976710656 := by decide
  omega
 by_cases hm0 : m * n = 0
 ·have hm00 : m = 0 := by rcases Nat.mul_eq_zero.1 hm0 with h | h <;> omega
  subst hm00
  have ez : ∀ (f g : Nat -> Value), (Array.range 0).map f = (Array.range 0).map g := fun f g => by apply Array.ext'; simp
  simp [run_underlying ht, asInt, asIntOf, typeInfo, hi, hw0, hbb, newRow, sizeOf, hsz]
  exact congrArg (fun c => w.alloc (Obj.cells c e)) (ez _ _)
 ·simp only [Sem.run_bind, run_underlying ht, asInt, asIntOf, Sem.run_pure, Result.andThen_ok, typeInfo, hi, run_program, hw1, hw0, hbb]
  have hlt : ¬ ((m : Int) < 0) := by omega
  simp [hlt, h48, sizeOf, typeInfo, hi, hsz, hm0, run_zc hi hz, newRow]
theorem Rel.marked {G : Nat -> AV} {K : Ctx} {σ : AS} {w : World} (h : Rel G K σ w) {b k n : Nat} (hbase : K.base <= b) (hbox : σ.box b = none) (htip : σ.tip b = none) : Rel G K σ (w.freeze ⟨b, k, none⟩ n) := by
 have hold : ∀ i, i ≠ b -> (w.freeze ⟨b, k, none⟩ n).heap[i]? = w.heap[i]? := fun i hi => by
  unfold World.freeze
  split
  ·rfl
  ·simp [Array.getElem?_modify, Ne.symm hi]
 have hsame : ∀ c E fz, w.heap[b]? = some (.cells c E fz) -> ∃ fz', (w.freeze ⟨b, k, none⟩ n).heap[b]? = some (.cells c E fz') := fun c E fz hc => by
  unfold World.freeze
  split
  ·exact ⟨fz, hc⟩
  ·simp [Array.getElem?_modify, hc]
 have hcell : ∀ a : Addr, (w.freeze ⟨b, k, none⟩ n).cell? a = w.cell? a := by
  intro a
  by_cases hab : a.block = b
  ·unfold World.freeze
   split
   ·rfl
   ·simp only [World.cell?, Array.getElem?_modify, hab, if_true]
    cases w.heap[b]? with
    | none => rfl
    | some o => cases o <;> rfl
  ·exact World.cell?_of_block (hold _ hab)
 have hsize : (w.freeze ⟨b, k, none⟩ n).heap.size = w.heap.size := by
  unfold World.freeze
  split <;> simp
 have hmeta : (w.freeze ⟨b, k, none⟩ n).os = w.os /\ (w.freeze ⟨b, k, none⟩ n).tape = w.tape /\ (w.freeze ⟨b, k, none⟩ n).output = w.output := by
  unfold World.freeze
  split <;> exact ⟨rfl, rfl, rfl⟩
 refine ⟨fun i o v hv => by rw [hcell]; exact h.imm _ _ _ hv, fun i cp s' E hi => ?_, fun i cs hi => ?_, h.tip, fun i E m hi => ?_, h.glob, ?_, by rw [hsize]; exact h.bs⟩
 ·obtain ⟨cu, fz, h1, h2, h3, h4⟩ := h.row i cp s' E hi
  by_cases hib : i = b
  ·subst hib
   obtain ⟨fz', h5⟩ := hsame cu E fz h1
   exact ⟨cu, fz', h5, h2, h3, fun ⟨x, hx⟩ => by rw [htip] at hx; cases hx⟩
  ·exact ⟨cu, fz, by rw [hold i hib]; exact h1, h2, h3, h4⟩
 ·have hne : i ≠ b := by rintro rfl; rw [hbox] at hi; cases hi
  obtain ⟨k1, k2, k3, k4, k5, d, F, hd, hx⟩ := h.box i cs hi
  exact ⟨k1, k2, k3, k4, k5, d, F, by rw [hold i hne]; exact hd, hx⟩
 ·have h1 := h.ty i E m hi
  by_cases hib : i = b
  ·subst hib
   cases E with
   | t E =>
    obtain ⟨d, fz, hd, hn⟩ := h1
    obtain ⟨fz', h5⟩ := hsame d E fz hd
    exact ⟨d, fz', h5, hn⟩
   | ob o =>
    obtain ⟨hb, x, hx, ho⟩ := h1
    refine ⟨hb, x, ?_, ho⟩
    unfold World.freeze
    split
    ·exact hx
    ·cases ho; simp [Array.getElem?_modify, hx]
  ·exact h1.old (hold i hib)
 ·exact h.below.trans ⟨hmeta.1, hmeta.2.1, hmeta.2.2, by rw [hsize]; exact Nat.le_refl _, fun i hi => hold i (by omega)⟩
theorem Rel.markedEnd {G : Nat -> AV} {K : Ctx} {σ : AS} {w : World} (h : Rel G K σ w) {b k n s cap : Nat} {E : TypeId} {c : Array Value} (hbase : K.base <= b) (hbox : σ.box b = none) (hrow : K.row b = some (cap, s, E)) (hc : w.heap[b]? = some (.cells c E (0, 0))) (hk : cap * s <= k) : Rel G K σ (w.freeze ⟨b, k, none⟩ n) := by
 by_cases hn : n = 0
 ·subst hn; exact h
 have hold : ∀ i, i ≠ b -> (w.freeze ⟨b, k, none⟩ n).heap[i]? = w.heap[i]? := fun i hi => by
  unfold World.freeze
  split
  ·rfl
  ·simp [Array.getElem?_modify, Ne.symm hi]
 have hnew : (w.freeze ⟨b, k, none⟩ n).heap[b]? = some (.cells c E (k, k + n)) := by
  unfold World.freeze
  rw [if_neg hn]
  simp [Array.getElem?_modify, hc]
 have hcell : ∀ a : Addr, (w.freeze ⟨b, k, none⟩ n).cell? a = w.cell? a := by
  intro a
  by_cases hab : a.block = b
  ·unfold World.freeze
   split
   ·rfl
   ·simp only [World.cell?, Array.getElem?_modify, hab, if_true]
    cases w.heap[b]? with
    | none => rfl
    | some o => cases o <;> rfl
  ·exact World.cell?_of_block (hold _ hab)
 have hsize : (w.freeze ⟨b, k, none⟩ n).heap.size = w.heap.size := by
  unfold World.freeze
  split <;> simp
 have hmeta : (w.freeze ⟨b, k, none⟩ n).os = w.os /\ (w.freeze ⟨b, k, none⟩ n).tape = w.tape /\ (w.freeze ⟨b, k, none⟩ n).output = w.output := by
  unfold World.freeze
  split <;> exact ⟨rfl, rfl, rfl⟩
 refine ⟨fun i o v hv => by rw [hcell]; exact h.imm _ _ _ hv, fun i cp s' F hi => ?_, fun i cs hi => ?_, h.tip, fun i F m hi => ?_, h.glob, ?_, by rw [hsize]; exact h.bs⟩
 ·obtain ⟨cu, fz, h1, h2, h3, h4⟩ := h.row i cp s' F hi
  by_cases hib : i = b
  ·subst hib
   rw [hrow] at hi
   simp only [Option.some.injEq, Prod.mk.injEq] at hi
   obtain ⟨rfl, rfl, rfl⟩ := hi
   rw [hc] at h1
   simp only [Option.some.injEq, Obj.cells.injEq] at h1
   obtain ⟨rfl, _, _⟩ := h1
   exact ⟨c, (k, k + n), hnew, h2, h3, fun _ => .inr hk⟩
  ·exact ⟨cu, fz, by rw [hold i hib]; exact h1, h2, h3, h4⟩
 ·have hne : i ≠ b := by rintro rfl; rw [hbox] at hi; cases hi
  obtain ⟨k1, k2, k3, k4, k5, d, F, hd, hx⟩ := h.box i cs hi
  exact ⟨k1, k2, k3, k4, k5, d, F, by rw [hold i hne]; exact hd, hx⟩
 ·have h1 := h.ty i F m hi
  by_cases hib : i = b
  ·subst hib
   cases F with
   | t F =>
    obtain ⟨d, fz, hd, hm⟩ := h1
    rw [hc] at hd
    simp only [Option.some.injEq, Obj.cells.injEq] at hd
    obtain ⟨rfl, rfl, rfl⟩ := hd
    exact ⟨c, (k, k + n), hnew, hm⟩
   | ob o =>
    obtain ⟨hb, x, hx, ho⟩ := h1
    rw [hc] at hx
    simp only [Option.some.injEq] at hx
    subst hx
    cases ho
  ·exact h1.old (hold i hib)
 ·exact h.below.trans ⟨hmeta.1, hmeta.2.1, hmeta.2.2, by rw [hsize]; exact Nat.le_refl _, fun i hi => hold i (by omega)⟩
theorem conv_bytes {P : Program} {G : Nat -> AV} {K : Ctx} {σ : AS} {w : World} (hr : Rel G K σ w) {s d e : TypeId} (hs : (P.underlying s).isSome = true) (hd : el P d = some e) (he : sk P e = .int .u8) (l : List UInt8) (hl : l.length <= maxLen) :
  ∃ z w' K', (convert s d (.string ⟨⟨l⟩⟩)).run P w = .ok z w' /\ K.le K' /\ Rel G K' σ w' /\ VR K' (.sl .none (l.map fun c => .int .u8 c.toNat) []) z := by
 obtain ⟨u, hu⟩ := Option.isSome_iff_exists.1 hs
 have hsz : (ByteArray.mk (Array.mk l)).size = l.length := rfl
 have hge : l.length <= grownCap w l.length 0 e := grownCap_ge w l.length 0 e
 have hcm : grownCap w l.length 0 e <= maxLen := grownCap_le_maxLen w _ 0 e hl
 obtain ⟨cap, hcap⟩ : ∃ cap, cap = grownCap w l.length 0 e := ⟨_, rfl⟩
 rw [<- hcap] at hge hcm
 let c : Array Value := ((ByteArray.mk (Array.mk l)).data.map fun b => Value.int .u8 b.toNat) ++ Array.replicate (cap - l.length) (.int .u8 0)
 obtain ⟨K', hle, hrel, himm, hrw⟩ := hr.drew.addImm c e
 have hcs : c.size = cap := by simp [c]; omega
 have hget : ∀ j (h : j < l.length), c.getD j Go.undef = .int .u8 l[j].toNat := by
  intro j h
  have h1 : j < ((ByteArray.mk (Array.mk l)).data.map fun b => Value.int .u8 b.toNat).size := by simpa using h
  simp only [c, Array.getD_eq_getD_getElem?]
  rw [Array.getElem?_append_left h1]
  simp [h]
 have hvr : VR K' (.sl .none (l.map fun c => .int .u8 c.toNat) []) (.slice (some ⟨w.drew.heap.size, 0, none⟩) (l.map fun c => AV.int .u8 c.toNat).length cap) := by
  refine VR.sl_row (n := 1) (c := c) (fun a ha => ?_) (by simpa using hge) hcm (fun o ho => himm o (by rw [hcs]; simp at ho; omega)) (fun j hj => ?_) trivial
  ·obtain ⟨x, _, rfl⟩ := List.mem_map.1 ha
   exact ⟨rfl, rfl, fun y hy => by simp [flat] at hy; subst hy; rfl⟩
  ·have hj' : j < l.length := by rw [flat_bytes] at hj; simpa using hj
   rw [hget j hj']
   have : ((l.map fun c => AV.int .u8 c.toNat).flatMap flat)[j] = AV.int .u8 l[j].toNat := by
    have h2 : ((l.map fun c => AV.int .u8 c.toNat).flatMap flat)[j]? = (l.map fun c => AV.int .u8 c.toNat)[j]? := by rw [flat_bytes]
    rw [List.getElem?_eq_getElem hj] at h2
    simpa [hj'] using h2
   rw [this]; exact .int _ _
 simp only [List.length_map] at hvr
 have hb1 : K'.base <= w.drew.heap.size := by rw [hle.base]; exact hr.bs
 have hfr := hr.fresh (Nat.le_refl w.heap.size)
 have hfin := hrel.marked (b := w.drew.heap.size) (k := c.size) (n := 1) hb1 hfr.1 hfr.2.1
 refine ⟨_, _, K', ?_, hle, hfin, hvr⟩
 unfold convert
 have key : (Conv.stringToBytes e ⟨⟨l⟩⟩).run P w = .ok (.slice (some ⟨w.drew.heap.size, 0, none⟩) l.length cap) ((w.drew.alloc (.cells c e)).freeze ⟨w.drew.heap.size, c.size, none⟩ 1) := by
  unfold Conv.stringToBytes
  have h1 : (choose (.appendCap l.length 0 e)).run P w = .ok cap w.drew := by
   rw [hcap]
   simp [grownCap, Question.forced]
  simp only [hsz, Sem.run_bind, h1, Result.andThen_ok, newRow, run_newObj, World.alloc_eq, Sem.run_pure]
  have h2 : ((w.drew.alloc (.cells c e)).shape? w.drew.heap.size) = some (e, c.size) := by
   have hx := heap_alloc_new w.drew (Obj.cells c e)
   simp only [World.shape?]
   rw [hx]
  have h3 : (markStringish ⟨w.drew.heap.size, 0, none⟩).run P (w.drew.alloc (.cells c e)) = .ok () ((w.drew.alloc (.cells c e)).freeze ⟨w.drew.heap.size, c.size, none⟩ 1) := by
   unfold markStringish
   simp only [Sem.run_bind, run_shape, h2, Result.andThen_ok]
   rfl
  simp only [c] at h3 ⊢
  rw [h3]
  rfl
 cases u <;> simp only [Sem.run_bind, run_underlying hu, run_underlying (run_el hd), run_underlying (sk_int he), Result.andThen_ok] <;> exact key
theorem conv_own {P : Program} {G : Nat -> AV} {K : Ctx} {σ : AS} {w : World} (hr : Rel G K σ w) {s d e : TypeId} (hs : (P.underlying s).isSome = true) (hd : el P d = some e) (he : sk P e = .int .u8) (l : List UInt8) (hl : l.length <= maxLen) :
  ∃ z w' K', (convert s d (.string ⟨⟨l⟩⟩)).run P w = .ok z w' /\ K.le K' /\ Rel G K' (σ.setTip w.heap.size (l.length, 1)) w' /\ VR K' (.sl (.own w.heap.size) (l.map fun c => .int .u8 c.toNat) []) z := by
 obtain ⟨u, hu⟩ := Option.isSome_iff_exists.1 hs
 have hsz : (ByteArray.mk (Array.mk l)).size = l.length := rfl
 have hge : l.length <= grownCap w l.length 0 e := grownCap_ge w l.length 0 e
 have hcm : grownCap w l.length 0 e <= maxLen := grownCap_le_maxLen w _ 0 e hl
 obtain ⟨cap, hcap⟩ : ∃ cap, cap = grownCap w l.length 0 e := ⟨_, rfl⟩
 rw [<- hcap] at hge hcm
 let c : Array Value := ((ByteArray.mk (Array.mk l)).data.map fun b => Value.int .u8 b.toNat) ++ Array.replicate (cap - l.length) (.int .u8 0)
 have hcs : c.size = cap := by simp [c]; omega
 obtain ⟨K', hle, hrel, hrow, himm⟩ := hr.drew.addRow c e cap 1 l.length (by rw [hcs]; omega) hge hcm
 have hget : ∀ j (h : j < l.length), c.getD j Go.undef = .int .u8 l[j].toNat := by
  intro j h
  have h1 : j < ((ByteArray.mk (Array.mk l)).data.map fun b => Value.int .u8 b.toNat).size := by simpa using h
  simp only [c, Array.getD_eq_getD_getElem?]
  rw [Array.getElem?_append_left h1]
  simp [h]
 have hvr : VR K' (.sl (.own w.drew.heap.size) (l.map fun c => .int .u8 c.toNat) []) (.slice (some ⟨w.drew.heap.size, 0, none⟩) (l.map fun c => AV.int .u8 c.toNat).length cap) := by
  refine VR.sl_row (n := 1) (c := c) (fun a ha => ?_) (by simpa using hge) hcm (fun o ho => himm o (by simpa using ho)) (fun j hj => ?_) ⟨rfl, rfl, e, 1, hrow⟩
  ·obtain ⟨x, _, rfl⟩ := List.mem_map.1 ha
   exact ⟨rfl, rfl, fun y hy => by simp [flat] at hy; subst hy; rfl⟩
  ·have hj' : j < l.length := by rw [flat_bytes] at hj; simpa using hj
   rw [hget j hj']
   have : ((l.map fun c => AV.int .u8 c.toNat).flatMap flat)[j] = AV.int .u8 l[j].toNat := by
    have h2 : ((l.map fun c => AV.int .u8 c.toNat).flatMap flat)[j]? = (l.map fun c => AV.int .u8 c.toNat)[j]? := by rw [flat_bytes]
    rw [List.getElem?_eq_getElem hj] at h2
    simpa [hj'] using h2
   rw [this]; exact .int _ _
 simp only [List.length_map] at hvr
 have hb1 : K'.base <= w.drew.heap.size := by rw [hle.base]; exact hr.bs
 have hfr := hr.fresh (Nat.le_refl w.heap.size)
 have hfin := hrel.markedEnd (b := w.drew.heap.size) (k := c.size) (n := 1) hb1 hfr.1 hrow (heap_alloc_new w.drew _) (by rw [hcs]; omega)
 refine ⟨_, _, K', ?_, hle, hfin, hvr⟩
 unfold convert
 have key : (Conv.stringToBytes e ⟨⟨l⟩⟩).run P w = .ok (.slice (some ⟨w.drew.heap.size, 0, none⟩) l.length cap) ((w.drew.alloc (.cells c e)).freeze ⟨w.drew.heap.size, c.size, none⟩ 1) := by
  unfold Conv.stringToBytes
  have h1 : (choose (.appendCap l.length 0 e)).run P w = .ok cap w.drew := by
   rw [hcap]
   simp [grownCap, Question.forced]
  simp only [hsz, Sem.run_bind, h1, Result.andThen_ok, newRow, run_newObj, World.alloc_eq, Sem.run_pure]
  have h2 : ((w.drew.alloc (.cells c e)).shape? w.drew.heap.size) = some (e, c.size) := by
   have hx := heap_alloc_new w.drew (Obj.cells c e)
   simp only [World.shape?]
   rw [hx]
  have h3 : (markStringish ⟨w.drew.heap.size, 0, none⟩).run P (w.drew.alloc (.cells c e)) = .ok () ((w.drew.alloc (.cells c e)).freeze ⟨w.drew.heap.size, c.size, none⟩ 1) := by
   unfold markStringish
   simp only [Sem.run_bind, run_shape, h2, Result.andThen_ok]
   rfl
  simp only [c] at h3 ⊢
  rw [h3]
  rfl
 cases u <;> simp only [Sem.run_bind, run_underlying hu, run_underlying (run_el hd), run_underlying (sk_int he), Result.andThen_ok] <;> exact key
def aconvW (P : Program) (s d : TypeId) (x : AV) : Option AV :=
 match x with
 | .str l => if sk P d = .str then aconv P s d x
   else if (P.underlying s).isSome && ((el P d).any fun e => decide (sk P e = .int .u8)) && decide (l.length <= maxLen) then some (.sl .none (l.map fun c => .int .u8 c.toNat) []) else none
 | _ => aconv P s d x
theorem aconvW_sound {P : Program} {G : Nat -> AV} {K : Ctx} {σ : AS} {w : World} (hr : Rel G K σ w) {s d : TypeId} {x r : AV} (h : aconvW P s d x = some r) {v : Value} (hv : VR K x v) :
  ∃ z w' K', (convert s d v).run P w = .ok z w' /\ K.le K' /\ Rel G K' σ w' /\ VR K' r z := by
 have old : aconv P s d x = some r -> ∃ z w' K', (convert s d v).run P w = .ok z w' /\ K.le K' /\ Rel G K' σ w' /\ VR K' r z := fun h => by
  obtain ⟨z, h1, h2⟩ := aconv_sound (w := w) h hv
  exact ⟨z, w, K, h1, Ctx.le.refl K, hr, h2⟩
 unfold aconvW at h
 split at h
 ·rename_i l
  split at h
  ·exact old h
  ·split at h
   ·rename_i hc
    simp only [Bool.and_eq_true, decide_eq_true_eq, Option.any_eq_true] at hc
    obtain ⟨⟨h1, e, h2, h3⟩, h4⟩ := hc
    simp only [Option.some.injEq] at h; subst h
    rw [VR.str_iff] at hv; subst hv
    exact conv_bytes hr h1 h2 h3 l h4
   ·cases h
 ·exact old h
def aconvO (P : Program) (σ : AS) (s d : TypeId) (x : AV) (K : AV -> AS -> Prop) : Prop :=
 ∃ l e, x = .str l /\ (P.underlying s).isSome = true /\ el P d = some e /\ sk P e = .int .u8 /\ l.length <= maxLen /\ ∀ b, σ.fresh b -> K (.sl (.own b) (l.map fun c => .int .u8 c.toNat) []) (σ.setTip b (l.length, 1))
theorem aconvO_sound {P : Program} {G : Nat -> AV} {K : Ctx} {σ : AS} {w : World} (hr : Rel G K σ w) {s d : TypeId} {x : AV} {Kc : AV -> AS -> Prop} (h : aconvO P σ s d x Kc) {v : Value} (hv : VR K x v) :
  ∃ z w' K' r σ', (convert s d v).run P w = .ok z w' /\ K.le K' /\ Rel G K' σ' w' /\ VR K' r z /\ Kc r σ' := by
 obtain ⟨l, e, rfl, h1, h2, h3, h4, hK⟩ := h
 rw [VR.str_iff] at hv
 subst hv
 obtain ⟨z, w', K', g1, g2, g3, g4⟩ := conv_own hr h1 h2 h3 l h4
 exact ⟨z, w', K', _, _, g1, g2, g3, g4, hK _ (hr.fresh (Nat.le_refl _))⟩
end Go.Av
