/- Terms of the kit: the same; how great. -/
import Derived.Test.YtpginpbcndlfmaaDoorZC
set_option linter.unusedVariables false
set_option linter.unusedSimpArgs false
set_option maxRecDepth 20000
namespace Go.Proofs.YtpginpbcndlfmaaDoor
open Go Go.Av
variable (G : Nat → AV)
mutual
/-- the same -/
def same : Term → Term → Bool
  | .mk k g l s n ks ts, u => decide ((k.toNat : Int) = u.knd) && (g == u.neg) && decide (l = u.limbs) && decide (s = u.text) && decide (n = u.num) && sames ks u.items && sames ts u.tail
def sames : List Term → List Term → Bool
  | [], [] => true
  | a :: l, b :: r => same a b && sames l r
  | _, _ => false
end
theorem same_eq (t u : Term) : same t u = (decide (t.knd = u.knd) && (t.neg == u.neg) && decide (t.limbs = u.limbs) && decide (t.text = u.text) && decide (t.num = u.num) && sames t.items u.items && sames t.tail u.tail) := by
  cases t; rw [same]; rfl
theorem sames_iff_of {l : List Term} (h : ∀ t, t ∈ l → ∀ u, same t u = true ↔ t = u) : ∀ r, sames l r = true ↔ l = r := by
  induction l with
  | nil => intro r; cases r <;> simp [sames]
  | cons a l ih =>
    intro r
    cases r with
    | nil => simp [sames]
    | cons b r => simp only [sames, Bool.and_eq_true, h a (by simp) b, ih (fun t ht => h t (by simp [ht])) r, List.cons.injEq]
theorem same_iff (t : Term) : ∀ u, same t u = true ↔ t = u := by
  refine Term.ind (P := fun t => ∀ u, same t u = true ↔ t = u) (fun t h1 h2 u => ?_) t
  rw [same_eq]
  simp only [Bool.and_eq_true, decide_eq_true_eq, beq_iff_eq, sames_iff_of h1, sames_iff_of h2]
  constructor
  · rintro ⟨⟨⟨⟨⟨⟨h, rfl2⟩, h3⟩, h4⟩, h5⟩, h6⟩, h7⟩
    cases t; cases u
    simp only [Term.knd, Term.kind, Term.neg, Term.limbs, Term.text, Term.num, Term.items, Term.tail] at *
    simp only [Term.mk.injEq]
    exact ⟨UInt8.toNat_inj.1 (by omega), rfl2, h3, h4, h5, h6, h7⟩
  · rintro rfl; simp
theorem sames_iff (l r : List Term) : sames l r = true ↔ l = r := sames_iff_of (fun t _ => same_iff t) r
end Go.Proofs.YtpginpbcndlfmaaDoor
