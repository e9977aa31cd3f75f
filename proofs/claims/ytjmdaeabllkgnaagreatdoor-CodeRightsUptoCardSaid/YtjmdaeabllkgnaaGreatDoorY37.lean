/- The reference's integers: made of an amount and a sign. -/
import Derived.Test.YtjmdaeabllkgnaaGreatDoorY36
set_option linter.unusedVariables false
set_option linter.unusedSimpArgs false
set_option maxRecDepth 20000
namespace Go.Proofs.YtjmdaeabllkgnaaGreatDoor
open Go Go.Av
variable (G : Nat -> AV)
theorem lims_ok (L : List UInt32) : ∀ a, a ∈ L.map limA -> (flat a).length = 1 /\ isv a = true := fun a ha => by
 obtain ⟨x, _, rfl⟩ := List.mem_map.1 ha
 exact ⟨rfl, rfl⟩
theorem flat_limsM (L : List UInt32) : (L.map limA).flatMap flat = L.map limA := by
 induction L with
 | nil => rfl
 | cons x l ih => rw [List.map_cons, List.flatMap_cons, ih]; rfl
structure TB (σ0 σ : AS) (b4 bt : Nat) (z : List AV) (g : Bool) (L : List UInt32) (v : AV) : Prop where
 box : σ.box bt = some [.int .u8 1, .bool g, v, .str [], .int .i64 0, .nil, .nil]
 res : σ.box b4 = some z
 buf : WBuf 1 169 σ0 σ v (L.map limA)
 n1 : notRow v bt
 n2 : notRow v b4
 ne : b4 ≠ bt
 o1 : σ0.box bt = none
 o2 : σ0.box b4 = none
theorem TB.row {σ0 σ : AS} {b4 bt : Nat} {z : List AV} {g : Bool} {L : List UInt32} {v : AV} (h : TB σ0 σ b4 bt z g L v) (hL : L ≠ []) : ∃ r, v = .bs r L.length 1 169 /\ σ.box r = some (L.map limA) := by
 obtain ⟨r, e, g1, _⟩ := h.buf.form (by simpa using hL)
 rw [List.length_map] at e
 rw [flat_limsM] at g1
 exact ⟨r, e, g1⟩
theorem TB.put {σ0 σ : AS} {b4 bt : Nat} {z : List AV} {g : Bool} {L : List UInt32} {r n : Nat} (h : TB σ0 σ b4 bt z g L (.bs r n 1 169)) (hL : L ≠ []) (q : Nat) (y : UInt32) : TB σ0 (σ.setBox r ((L.set q y).map limA)) b4 bt z g (L.set q y) (.bs r n 1 169) := by
 obtain ⟨r', e, g1, g2, g3⟩ := h.buf.form (by simpa using hL)
 rw [List.length_map] at e
 simp only [AV.bs.injEq] at e
 obtain ⟨rfl, rfl, _⟩ := e
 have n1 : bt ≠ r := h.n1
 have n2 : b4 ≠ r := h.n2
 refine ⟨by simp only [AS.setBox, if_neg n1]; exact h.box, by simp only [AS.setBox, if_neg n2]; exact h.res, ?_, h.n1, h.n2, h.ne, h.o1, h.o2⟩
 have hb := WBuf.row (E := 169) (n := 1) (σ0 := σ0) (σ := σ.setBox r ((L.set q y).map limA)) r ((L.set q y).map limA) (h.buf.le.setBox g2 _) g2 g3 (by rw [flat_limsM]; simp [AS.setBox]) (lims_ok _)
 rw [List.length_map, List.length_set] at hb
 exact hb
theorem TB.le {σ0 σ : AS} {b4 bt : Nat} {z : List AV} {g : Bool} {L : List UInt32} {v : AV} (h : TB σ0 σ b4 bt z g L v) : σ0.le σ := h.buf.le
end Go.Proofs.YtjmdaeabllkgnaaGreatDoor
