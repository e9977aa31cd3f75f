/- CodeTells on abstract values. -/
import Derived.Test.YtjmdaeabllkgnaaGreatDoorY31
import Derived.Test.YtjmdaeabllkgnaaGreatDoorY34
import Derived.Test.YtjmdaeabllkgnaaGreatDoorY41
import Derived.Test.YtjmdaeabllkgnaaGreatDoorY25
set_option linter.unusedVariables false
set_option linter.unusedSimpArgs false
set_option maxRecDepth 20000
namespace Go.Proofs.YtjmdaeabllkgnaaGreatDoor
open Go Go.Av
variable {G : Nat -> AV}
theorem row_lendI {σ : AS} {b : Nat} {l : List Int} (hb : σ.box b = some (l.map intA)) : Lend G σ (.bs b l.length 1 3) (rowOf intA l) := by
 have h := Lend.row (G := G) (σ := σ) (b := b) (s := 1) (E := 3) (cs := l.map intA) (ds := l.map intA) hb (by rw [List.take_length]; exact Lends.ids _) (Nat.le_refl _) (xs := l.map intA) (sp := []) (by rw [List.append_nil]; exact ints_cells l) (by omega) (fun e he => by
  rw [List.append_nil] at he
  obtain ⟨x, _, rfl⟩ := List.mem_map.1 he
  exact ⟨rfl, rfl, fun c hc => by simp [intA, flat] at hc; subst hc; rfl⟩)
 rw [List.length_map] at h
 exact h
theorem two_rowsI {r1 r2 n m : Nat} (h : r1 ≠ r2) : Distinct [some (r1, n), some (r2, m)] := by
 intro i j b n' m' hi hj
 match i, j, hi, hj with
 | 0, 0, hi, hj => rfl
 | 0, 1, hi, hj => simp at hi hj; exact absurd (hi.1.trans hj.1.symm) h
 | 1, 0, hi, hj => simp at hi hj; exact absurd (hj.1.trans hi.1.symm) h
 | 1, 1, hi, hj => rfl
 | 0, j + 2, hi, hj => simp at hj
 | 1, j + 2, hi, hj => simp at hj
 | i + 2, j, hi, hj => simp at hi
structure TL (G : Nat -> AV) (i : Ins) (L : List Int) (W : Int) (O : Bool) (T : List UInt8) : Prop where
 w : Pure Tryz.prog G 9 [] (.bool true)
 g : Pure Tryz.prog G 18 [i.enc] (.bool false)
 l : ∀ σ, Tri Tryz.prog G 19 [i.enc] σ fun r σ' => ∃ b, r = i.own b /\ LentAt σ σ' b i.slots
 r0 : L = [] -> Pure Tryz.prog G 20 [i.kent] .nil
 r1 : L ≠ [] -> ∀ σ : AS, Tri Tryz.prog G 20 [i.kent] σ fun r s => MadeRow L.length 1 3 (L.map intA) σ r s
 wr : Pure Tryz.prog G 21 [i.kent] (.tup [.int .i64 W, .bool O])
 tx : Pure Tryz.prog G 22 [i.kent] (.str T)
 k : Pure Tryz.prog G 23 [i.kent, i.enc] (.bool true)
 ov : ∀ (b : Nat) (σ : AS), σ.box b = some (i.slots.map intA ++ imarks) -> Tri Tryz.prog G 24 [i.own b] σ fun r σ' => r = .tup [] /\ LeX (fun c => c = b) σ σ'
 rw_ : Pure Tryz.prog G 25 [i.enc] (.tup [.int .i64 W, .bool O])
 rr : Pure Tryz.prog G 26 [i.enc] (rowOf intA L)
 rt : Pure Tryz.prog G 27 [i.enc] (.str T)
 sm : Pure Tryz.prog G 14 [rowOf intA L, rowOf intA L] (.bool true)
 hL : L.length <= 1000000000
end Go.Proofs.YtjmdaeabllkgnaaGreatDoor
