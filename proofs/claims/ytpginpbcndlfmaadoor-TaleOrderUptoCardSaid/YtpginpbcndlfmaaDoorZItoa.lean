/- A number's text, from the shelf. -/
import Derived.Test.YtpginpbcndlfmaaDoorZH
import Derived.Test.YtpginpbcndlfmaaDoorZShelf
import Derived.Lib.AppendIntMem
set_option linter.unusedVariables false
set_option linter.unusedSimpArgs false
namespace Go.Proofs.YtpginpbcndlfmaaDoor
open Go Go.Av Go.RowKit
variable {G : Nat → AV}
theorem decDigits_eq (n : Nat) : Lib.decDigits n = decT n := by
  have key : ∀ n, n ≠ 0 → Lib.decDigits n = (digs n).reverse := by
    intro n
    induction n using Nat.strongRecOn with
    | _ n ih =>
      intro h0
      rw [Lib.decDigits, digs_step h0]
      by_cases h : n < 10
      · rw [dif_pos h]
        have : n / 10 = 0 := by omega
        rw [this, digs]
        simp
        congr 1; omega
      · rw [dif_neg h, ih (n / 10) (by omega) (by omega)]
        simp
  unfold decT
  by_cases h0 : n = 0
  · subst h0; rw [if_pos rfl, Lib.decDigits]; rfl
  · rw [if_neg h0, key n h0]
theorem libitoa_eq (n : Int) : Lib.itoa n = itoa n := by
  unfold Lib.itoa itoa
  split
  · rw [decDigits_eq]; rfl
  · rw [decDigits_eq]
    have : n.toNat = n.natAbs := by omega
    rw [this]; rfl
def powV : List Value := Lib.pow10Tab.map fun z => .int .u64 z
theorem itoa_pure (hp : G 2 = .tab powV) (n : Int) (h0 : -9223372036854775808 ≤ n) (h1 : n ≤ 9223372036854775807) : Pure Tryd.prog G 25 [.int .i64 n] (.str (itoa n)) := by
  refine Pure.of_calls (vals := [.int .i64 n]) (u := .string ⟨⟨itoa n⟩⟩) (by kernel_rfl) (fun K l h => ?_) (fun K => .str _) (fun K σ w hr => ?_)
  · match l, h with
    | [a], ⟨h1, _⟩ => rw [VR.int_iff] at h1; rw [h1]
  · have hg := hr.glob 2
    rw [hp] at hg
    have htab : Lib.TabIs Tryd.prog w "internal/strconv.uint64pow10" .u64 Lib.pow10Tab := by
      cases hg with
      | tab _ _ E fz hb hw =>
        have hblk := (hr.below.block _ hb).trans hw
        unfold Lib.TabIs World.var?
        rw [show Tryd.prog.globalNamed "internal/strconv.uint64pow10" = some 2 by kernel_rfl]
        simp [hblk, powV]
    refine (Tryd.strconv_Itoa n h0 h1 w htab).mono ?_
    rintro e w' ⟨he, k, os, hw⟩
    subst hw
    rw [libitoa_eq] at he
    exact ⟨he, Lib.below_grow _ _ (Nat.le_refl _) k os⟩
end Go.Proofs.YtpginpbcndlfmaaDoor
