/- The integer of limbs. -/
import Derived.Test.YtjmdaeabllkgnaaGreatDoorY15
import Derived.Test.YtjmdaeabllkgnaaGreatDoorY13
import Derived.Test.YtjmdaeabllkgnaaGreatDoorY00
import Derived.Lib.AppendIntMem
import Derived.Test.YtjmdaeabllkgnaaGreatDoorY12
set_option linter.unusedVariables false
set_option linter.unusedSimpArgs false
set_option maxRecDepth 20000
namespace Go.Proofs.YtjmdaeabllkgnaaGreatDoor
open Go Go.Av
section
variable (G : Nat -> AV)
def intT (neg : Bool) (m : List UInt32) : Term := .mk 1 neg m [] 0 [] []
end
set_option maxRecDepth 20000
section
variable (G : Nat -> AV)
theorem wr_int {t : Term} (h : wr t = true) : t = intT t.neg t.limbs /\ (t.limbs = [] \/ ∃ q x, t.limbs = q ++ [x] /\ x ≠ 0) /\ t.limbs.length <= 32 := by
 obtain ⟨h1, h2, h3, h4, h5, h6, h7, h8⟩ := wr_spec h
 refine ⟨term_ext h1 rfl rfl h2 h3 h4 h5, ?_, h6⟩
 rcases List.eq_nil_or_concat t.limbs with e | ⟨q, x, e⟩
 ·exact .inl e
 ·rw [List.concat_eq_append] at e
  refine .inr ⟨q, x, e, fun hx => ?_⟩
  have := h8 (by rw [e]; simp)
  rw [e] at this
  simp [lastOk, hx] at this
theorem digs_step {n : Nat} (h : n ≠ 0) : digs n = UInt8.ofNat (48 + n % 10) :: digs (n / 10) := by rw [digs, dif_neg h]
theorem digs_len : ∀ (k n : Nat), n < 10 ^ k -> (digs n).length <= k
 | 0, n, h => by
  have : n = 0 := by simp at h; omega
  subst this
  rw [digs]; simp
 | k + 1, n, h => by
  by_cases h0 : n = 0
  ·subst h0; rw [digs]; simp
  ·rw [digs_step h0, List.length_cons]
   have := digs_len k (n / 10) (by rw [Nat.pow_succ] at h; omega)
   omega
theorem val_lt : ∀ l : List UInt32, val l < 4294967296 ^ l.length
 | [] => by simp [val]
 | x :: l => by
  have := val_lt l
  have := x.toNat_lt
  simp only [val, List.length_cons, Nat.pow_succ]
  omega
theorem dig_bound {l : List UInt32} (h : l.length <= 32) : (digs (val l)).length <= 309 := by
 refine digs_len 309 _ (Nat.lt_of_lt_of_le (val_lt l) (Nat.le_trans (Nat.pow_le_pow_right (by omega) h) ?_))
 decide +kernel
end
section
open Go Go.Av Go.RowKit
variable {G : Nat -> AV}
theorem decDigits_eq (n : Nat) : Lib.decDigits n = decT n := by
 have key : ∀ n, n ≠ 0 -> Lib.decDigits n = (digs n).reverse := by
  intro n
  induction n using Nat.strongRecOn with
  | _ n ih =>
   intro h0
   rw [Lib.decDigits, digs_step h0]
   by_cases h : n < 10
   ·rw [dif_pos h]
    have : n / 10 = 0 := by omega
    rw [this, digs]
    simp
    congr 1; omega
   ·rw [dif_neg h, ih (n / 10) (by omega) (by omega)]
    simp
 unfold decT
 by_cases h0 : n = 0
 ·subst h0; rw [if_pos rfl, Lib.decDigits]; rfl
 ·rw [if_neg h0, key n h0]
theorem libitoa_eq (n : Int) : Lib.itoa n = itoa n := by
 unfold Lib.itoa itoa
 split
 ·rw [decDigits_eq]; rfl
 ·rw [decDigits_eq]
  have : n.toNat = n.natAbs := by omega
  rw [this]; rfl
def powV : List Value := Lib.pow10Tab.map fun z => .int .u64 z
theorem itoa_pure (hp : G 4 = .tab powV) (n : Int) (h0 : -9223372036854775808 <= n) (h1 : n <= 9223372036854775807) : Pure Tryz.prog G 63 [.int .i64 n] (.str (itoa n)) := by
 refine Pure.of_calls (vals := [.int .i64 n]) (u := .string ⟨⟨itoa n⟩⟩) (by kernel_rfl) (fun K l h => ?_) (fun K => .str _) (fun K σ w hr => ?_)
 ·match l, h with
  | [a], ⟨h1, _⟩ => rw [VR.int_iff] at h1; rw [h1]
 ·have hg := hr.glob 4
  rw [hp] at hg
  have htab : Lib.TabIs Tryz.prog w "internal/strconv.uint64pow10" .u64 Lib.pow10Tab := by
   cases hg with
   | tab _ _ E fz hb hw =>
    have hblk := (hr.below.block _ hb).trans hw
    unfold Lib.TabIs World.var?
    rw [show Tryz.prog.globalNamed "internal/strconv.uint64pow10" = some 4 by kernel_rfl]
    simp [hblk, powV]
  refine (Tryz.strconv_Itoa n h0 h1 w htab).mono ?_
  rintro e w' ⟨he, k, os, hw⟩
  subst hw
  rw [libitoa_eq] at he
  exact ⟨he, Lib.below_grow _ _ (Nat.le_refl _) k os⟩
end
set_option maxRecDepth 20000
section
variable (G : Nat -> AV)
def texts (ws : List (List UInt8)) : AV := .sl .none (ws.map AV.str) []
instance {ws : List (List UInt8)} : NotBs (texts ws) := ⟨fun _ _ _ _ h => by unfold texts at h; cases h⟩
theorem len_texts {P : Program} {t : TypeId} (l : List (List UInt8)) : ablt P .len #[t] [texts l] = if (el P t).isSome then some (.int .i64 l.length) else none := by
 simp [texts, l_sl]
theorem ix_texts {P : Program} {t : TypeId} {k : IntKind} (l : List (List UInt8)) (i : Nat) : aindexA P t (texts l) (.int k (i : Int)) = ixk ((el P t).bind (tk P)) ((l[i]?).map AV.str) := by
 simp [texts, aindexA_sl]
end
set_option maxRecDepth 20000
section
variable {G : Nat -> AV}
structure Glob (G : Nat -> AV) : Prop where
 words : G 1 = .rp (Proofs.YtjmdaeabllkgnaaGreatDoor.words.map AV.str)
theorem wb {σ0 σ : AS} {b : Nat} {xs : List UInt8} (h : Bl σ0 σ b xs) (hl : xs.length <= 1000000000) (c : UInt8) (n : Int) (hn : n = c.toNat) :
  Tri Tryz.prog G 122 [.ptr b 0, .int .u8 n] σ fun r σ' => Bl σ0 σ' b (xs ++ [c]) := by subst hn; exact writeByte_tri G h hl c
end
end Go.Proofs.YtjmdaeabllkgnaaGreatDoor
