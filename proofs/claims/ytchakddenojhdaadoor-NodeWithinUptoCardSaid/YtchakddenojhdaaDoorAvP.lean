/- A drawn row whose ways meet again: what it yields is told once. -/
import Derived.Test.YtchakddenojhdaaDoorAvN
set_option linter.unusedVariables false
set_option linter.unusedSimpArgs false
namespace Go.Av
open Go Go.RowKit
theorem draw_cut {P : Program} (hm : P.follows .mixedOrders = true) {G : Nat → AV} {l : List Oper} {R : Env → AS → Prop} {e : Env} {σ : AS} {d : Dum l.toArray} {d' : Dum R} {d2 : Dum e} {d3 : Dum σ} (s : Nat) (a : AV) (hs : (opsWrites l).contains s = true) (hn : drawB l.toArray (headLen l) = true)
    (h1 : awpHT P G l σ (fun e' σ' => e' s = a ∧ σ' = σ) l e σ) (h2 : ∀ v : Env, v s = a → R (mrg (opsWrites l) v e) σ) : drawW P G l.toArray R e σ d d' d2 d3 := by
  have h3 : adraw P G l.toArray (fun e' σ' => e' s = a ∧ σ' = σ) e σ := ⟨headLen l, hn, ht_head l e σ h1⟩
  have h4 := (drawOK hm).frame l.toArray _ e σ h3
  refine (drawOK hm).mono l.toArray _ R e σ (fun e' s' ⟨⟨h5, h6⟩, h7⟩ => ?_) h4
  subst h6
  have : e' = mrg (opsWrites l) e' e := by
    funext t
    unfold mrg
    by_cases ht : (opsWrites l).contains t = true
    · rw [if_pos ht]
    · rw [if_neg ht]
      exact h7 t (by simpa using ht)
  rw [this]
  exact h2 e' h5
end Go.Av
