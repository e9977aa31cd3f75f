/- Code: is a code more than is gone through in time? -/
import Derived.Test.YtjmdaeabllkgnaaGreatDoorZ24
import Derived.Test.YtjmdaeabllkgnaaGreatDoorZ13
import Derived.Test.YtjmdaeabllkgnaaGreatDoorZ25
set_option linter.unusedVariables false
set_option linter.unusedSimpArgs false
set_option maxRecDepth 20000
namespace Go.Proofs.YtjmdaeabllkgnaaGreatDoor
open Go Go.Av
section
variable {G : Nat → AV}
end
section
variable {G : Nat → AV}
theorem slotsX_len : ∀ (l : List Int), (∀ n, n ∈ l → i64R n) → (slotsX l).length ≤ 40 * l.length + 1
 | [], _ => by simp [slotsX]
 | n :: l, h => by
  have h1 := slotsX_len l fun m hm => h m (List.mem_cons_of_mem _ hm)
  have h2 := h n List.mem_cons_self
  unfold i64R at h2
  have h3 := itoa_len4 n (by omega) (by omega)
  simp only [slotsX, List.length_cons, List.length_append]
  omega
theorem slotsT_len (l : List Int) (h : ∀ n, n ∈ l → i64R n) : (slotsT l).length ≤ 40 * l.length + 3 := by
 cases l with
 | nil => simp [slotsT]
 | cons n l =>
  have h1 := slotsX_len l fun m hm => h m (List.mem_cons_of_mem _ hm)
  have h2 := h n List.mem_cons_self
  unfold i64R at h2
  have h3 := itoa_len4 n (by omega) (by omega)
  simp only [slotsT, List.length_cons, List.length_append]
  omega
theorem textA_len (s : List UInt8) : (text (atomTm s)).length ≤ 400 * (s.length + 10) := by
 unfold text
 split
 ·rename_i h
  have := said_len _ h
  have hb : (atomTm s).bulk ≤ s.length + 10 := by simp only [atomTm, Term.bulk, bulks, List.length_nil]; omega
  omega
 ·simp
theorem nI_len (c : UInt8) (n : Int) (h : i64R n) : (nI c n).length ≤ 40 := by
 unfold i64R at h
 have h3 := itoa_len4 n (by omega) (by omega)
 simp only [nI, List.length_cons]
 omega
theorem pieces_len (i : Ins) (hr : i.Rng) (hi : i.bulk ≤ 1000000) : ∀ f, (pieceT i f).length ≤ 100000000000 := fun f => by
 have ha := nI_len 115 i.a hr.a
 have hb := nI_len 115 i.b hr.b
 have hc := nI_len 115 i.c hr.c
 have hn := nI_len 35 i.n hr.n
 have hl := nI_len 64 i.l hr.l
 have hs := slotsT_len i.slots hr.slots
 have ht := textA_len i.text
 unfold Ins.bulk at hi
 unfold pieceT
 repeat' split
 all_goals first | omega | (simp only [List.length_cons, List.length_nil]; omega)
end
end Go.Proofs.YtjmdaeabllkgnaaGreatDoor
