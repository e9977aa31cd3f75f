/-
 DERIVED: THE SHELF's CONTRACTS AT THIS DUMP, IN PLAIN WORDS (tools/lay-plain.mjs out of 'TryzShelf.lean', which tools/lay-shelf.mjs wrote): THE SAME DECLARATIONS UNDER THE SAME NAMES: 'import', 'namespace', 'open', 'def', 'theorem' AND NOTHING ELSE: no command of the shelf's: FOR A HAND-IN. Each laying: the table of numbers ('.._ren') and one theorem, a field a fact of the dump's own or the kernel's comparison; each contract: ONE APPLICATION.
-/
import Derived.Shelf.Strings.Builder1
import Derived.Shelf.Small.Wraps
import Derived.Shelf.Strings.BuilderF
import Derived.Shelf.Strings.BuilderK
import Derived.Shelf.Strconv.Itoa0
import Derived.Shelf.Strconv.Itoa1
import Derived.Shelf.LaysM
import Derived.Shelf.Strconv.Itoa2
import Derived.Shelf.Strconv.Itoa3
import Derived.Shelf.Strings.BuilderCap
import Derived.Shelf.Slices.Turned
import Derived.Ground.Names2Prog
import Derived.Shelf.Slices.SearchI
import Derived.Ground.SlgnProg
import Derived.Shelf.SlicesE.Clone
import Derived.Test.YtdhbdhopnpmboaaGreatDoorProg
import Derived.Test.YtdhbdhopnpmboaaGreatDoorZ08
import Derived.Lib.AppendIntMem
import Derived.Test.YtdhbdhopnpmboaaGreatDoorZ06
import Derived.Test.YtdhbdhopnpmboaaGreatDoorZ07
set_option linter.defProp false
namespace Go.Proofs
open Go.Shelf
def Tryz.laysM171_ren : Go.Shelf.Ren := ⟨fun | 171 => 47 | 243 => 81 | 246 => 123 | 283 => 163 | 284 => 164 | 285 => 165 | 286 => 166 | 129 => 179 | 317 => 178 | 318 => 180 | 319 => 181 | 320 => 182 | 337 => 184 | 338 => 185 | n => n, fun | 3 => 3 | 9 => 9 | 2 => 2 | 4 => 4 | 171 => 222 | 0 => 0 | 53 => 128 | 37 => 45 | 5 => 5 | 173 => 225 | 212 => 239 | 51 => 47 | 20 => 20 | 213 => 240 | 46 => 106 | 232 => 244 | 233 => 245 | n => n, fun | 17 => 2 | 18 => 3 | 19 => 4 | n => n⟩
theorem Tryz.laysM171 : Go.Proofs.LaysM.n171 Tryz.prog Tryz.laysM171_ren := {
 mixed := by kernel_rfl
 f129 := Tryz.func179.trans (congrArg some (by kernel_rfl))
 f171 := Tryz.func47.trans (congrArg some (by kernel_rfl))
 f243 := Tryz.func81.trans (congrArg some (by kernel_rfl))
 f246 := Tryz.func123.trans (congrArg some (by kernel_rfl))
 f283 := Tryz.func163.trans (congrArg some (by kernel_rfl))
 f284 := Tryz.func164.trans (congrArg some (by kernel_rfl))
 f285 := Tryz.func165.trans (congrArg some (by kernel_rfl))
 f286 := Tryz.func166.trans (congrArg some (by kernel_rfl))
 f317 := Tryz.func178.trans (congrArg some (by kernel_rfl))
 f318 := Tryz.func180.trans (congrArg some (by kernel_rfl))
 f319 := Tryz.func181.trans (congrArg some (by kernel_rfl))
 f320 := Tryz.func182.trans (congrArg some (by kernel_rfl))
 f337 := Tryz.func184.trans (congrArg some (by kernel_rfl))
 f338 := Tryz.func185.trans (congrArg some (by kernel_rfl))
 t0 := Tryz.underlying0
 a0 := Tryz.isAgg0
 z0 := Tryz.sizeOf0
 v0 := Tryz.zeroValue0
 t2 := Tryz.underlying2
 a2 := Tryz.isAgg2
 z2 := Tryz.sizeOf2
 v2 := Tryz.zeroValue2
 t3 := Tryz.underlying3
 a3 := Tryz.isAgg3
 z3 := Tryz.sizeOf3
 v3 := Tryz.zeroValue3
 t4 := Tryz.underlying4
 a4 := Tryz.isAgg4
 z4 := Tryz.sizeOf4
 v4 := Tryz.zeroValue4
 t5 := Tryz.underlying5
 a5 := Tryz.isAgg5
 z5 := Tryz.sizeOf5
 v5 := Tryz.zeroValue5
 t9 := Tryz.underlying9
 a9 := Tryz.isAgg9
 z9 := Tryz.sizeOf9
 v9 := Tryz.zeroValue9
 t20 := Tryz.underlying20
 a20 := Tryz.isAgg20
 z20 := Tryz.sizeOf20
 v20 := Tryz.zeroValue20
 t37 := Tryz.underlying45
 a37 := Tryz.isAgg45
 z37 := Tryz.sizeOf45
 v37 := Tryz.zeroValue45
 t46 := Tryz.underlying106
 a46 := Tryz.isAgg106
 z46 := Tryz.sizeOf106
 v46 := Tryz.zeroValue106
 t51 := Tryz.underlying47
 a51 := Tryz.isAgg47
 z51 := Tryz.sizeOf47
 v51 := Tryz.zeroValue47
 t53 := Tryz.underlying128
 a53 := Tryz.isAgg128
 z53 := Tryz.sizeOf128
 v53 := Tryz.zeroValue128
 t171 := Tryz.underlying222
 a171 := Tryz.isAgg222
 z171 := Tryz.sizeOf222
 v171 := Tryz.zeroValue222
 t173 := Tryz.underlying225
 a173 := Tryz.isAgg225
 z173 := Tryz.sizeOf225
 v173 := Tryz.zeroValue225
 t212 := Tryz.underlying239
 a212 := Tryz.isAgg239
 z212 := Tryz.sizeOf239
 v212 := Tryz.zeroValue239
 t213 := Tryz.underlying240
 a213 := Tryz.isAgg240
 z213 := Tryz.sizeOf240
 t232 := Tryz.underlying244
 a232 := Tryz.isAgg244
 z232 := Tryz.sizeOf244
 v232 := Tryz.zeroValue244
 t233 := Tryz.underlying245
 a233 := Tryz.isAgg245
 z233 := Tryz.sizeOf245
 v233 := Tryz.zeroValue245
 g17 := by kernel_rfl
 g18 := by kernel_rfl
 g19 := by kernel_rfl
 i0 := by kernel_rfl
 i2 := by kernel_rfl
 i3 := by kernel_rfl
 i4 := by kernel_rfl
 i5 := by kernel_rfl
 i9 := by kernel_rfl
 i20 := by kernel_rfl
 i37 := by kernel_rfl
 i46 := by kernel_rfl
 i51 := by kernel_rfl
 i53 := by kernel_rfl
 i171 := by kernel_rfl
 i173 := by kernel_rfl
 i212 := by kernel_rfl
 i232 := by kernel_rfl
 i233 := by kernel_rfl
 m17 := by kernel_rfl
 m18 := by kernel_rfl
 m19 := by kernel_rfl }
open Go.RowKit Go.Sort Go.Lib in
theorem Tryz.strconv_Itoa (n : Int) (h0 : -9223372036854775808 <= n) (h1 : n <= 9223372036854775807) (w : World) (htab : Lib.TabIs Tryz.prog w "internal/strconv.uint64pow10" .u64 Lib.pow10Tab) :
  Calls Tryz.prog 47 #[.int .i64 n] w fun e w' => e = .returned (.string ⟨(Lib.itoa n).toArray⟩) /\ ∃ k os, w' = grow (w.drewN k) os := Any.strconv_Itoa Tryz.laysM171 n h0 h1 w htab
end Go.Proofs
set_option linter.unusedVariables false
set_option linter.unusedSimpArgs false
namespace Go.Proofs.YtdhbdhopnpmboaaGreatDoor
open Go Go.Av Go.RowKit
variable {G : Nat -> AV}
theorem decDigits_eq (n : Nat) : Lib.decDigits n = decT n := by
 have key : ∀ n, n ≠ 0 -> Lib.decDigits n = (digs n).reverse := by
  intro n
  induction n using Nat.strongRecOn with
  | _ n ih =>
   intro h0
   rw [Lib.decDigits, digs_step h0]
   by_cases h : n < 10
   ·rw [dif_pos h]
    have : n / 10 = 0 := by omega
    rw [this, digs]
    simp
    congr 1; omega
   ·rw [dif_neg h, ih (n / 10) (by omega) (by omega)]
    simp
 unfold decT
 by_cases h0 : n = 0
 ·subst h0; rw [if_pos rfl, Lib.decDigits]; rfl
 ·rw [if_neg h0, key n h0]
theorem libitoa_eq (n : Int) : Lib.itoa n = itoa n := by
 unfold Lib.itoa itoa
 split
 ·rw [decDigits_eq]; rfl
 ·rw [decDigits_eq]
  have : n.toNat = n.natAbs := by omega
  rw [this]; rfl
def powV : List Value := Lib.pow10Tab.map fun z => .int .u64 z
theorem itoa_pure (hp : G 2 = .tab powV) (n : Int) (h0 : -9223372036854775808 <= n) (h1 : n <= 9223372036854775807) : Pure Tryz.prog G 47 [.int .i64 n] (.str (itoa n)) := by
 refine Pure.of_calls (vals := [.int .i64 n]) (u := .string ⟨⟨itoa n⟩⟩) (by kernel_rfl) (fun K l h => ?_) (fun K => .str _) (fun K σ w hr => ?_)
 ·match l, h with
  | [a], ⟨h1, _⟩ => rw [VR.int_iff] at h1; rw [h1]
 ·have hg := hr.glob 2
  rw [hp] at hg
  have htab : Lib.TabIs Tryz.prog w "internal/strconv.uint64pow10" .u64 Lib.pow10Tab := by
   cases hg with
   | tab _ _ E fz hb hw =>
    have hblk := (hr.below.block _ hb).trans hw
    unfold Lib.TabIs World.var?
    rw [show Tryz.prog.globalNamed "internal/strconv.uint64pow10" = some 2 by kernel_rfl]
    simp [hblk, powV]
  refine (Tryz.strconv_Itoa n h0 h1 w htab).mono ?_
  rintro e w' ⟨he, k, os, hw⟩
  subst hw
  rw [libitoa_eq] at he
  exact ⟨he, Lib.below_grow _ _ (Nat.le_refl _) k os⟩
end Go.Proofs.YtdhbdhopnpmboaaGreatDoor
set_option maxRecDepth 20000
namespace Go.Proofs.YtdhbdhopnpmboaaGreatDoor
open Go Go.Av
def tbQuo := And.intro (And.intro (And.intro @tf3 @tf4) (And.intro @tf5 (And.intro @tf9 @tf45))) (And.intro (And.intro @tf44 @tf105) (And.intro @tf56 (And.intro @tf54 @tf106)))
variable (G : Nat -> AV)
def idx (s : List UInt8) : Nat -> List (List UInt8) -> Int
 | _, [] => -1
 | k, w :: ws => if s = w then k else idx s (k + 1) ws
theorem idx_mem (s : List UInt8) : ∀ (ws : List (List UInt8)) (k : Nat), (0 <= idx s k ws) ↔ s ∈ ws
 | [], k => by simp [idx]
 | w :: ws, k => by
  simp only [idx]
  split
  ·rename_i h; subst h; simp
  ·rename_i h; rw [idx_mem s ws (k + 1)]; simp [h]
def texts (ws : List (List UInt8)) : AV := .sl .none (ws.map AV.str) []
instance {ws : List (List UInt8)} : NotBs (texts ws) := ⟨fun _ _ _ _ h => by unfold texts at h; cases h⟩
theorem len_texts {P : Program} {t : TypeId} (l : List (List UInt8)) : ablt P .len #[t] [texts l] = if (el P t).isSome then some (.int .i64 l.length) else none := by
 simp [texts, l_sl]
theorem ix_texts {P : Program} {t : TypeId} {k : IntKind} (l : List (List UInt8)) (i : Nat) : aindexA P t (texts l) (.int k (i : Int)) = ixk ((el P t).bind (tk P)) ((l[i]?).map AV.str) := by
 simp [texts, aindexA_sl]
theorem index_pure (ws : List (List UInt8)) (s : List UInt8) (hl : ws.length <= 1000000) : Pure Tryz.prog G 122 [texts ws, .str s] (.int .i64 (idx s 0 ws)) := by
 intro σ
 refine Tri.of_awp mixed Tryz.func122 rfl (by kernel_rfl) (by kernel_rfl) (by simp [Tryz.ntmps122]) Tryz.results122 ?_
 repeat' (first | refine xs ?_ ?_ <;> intros | (refine wn ?_; intro bx hbx; try simp only [fb] at hbx) | refine wj ?_ | simp -dsimp only [↓bp, bq, br, seval, tbQuo, len_texts, ix_texts, *] | refine wz ?_ | fail)
 refine loop_keep mixed (fun n e => ∃ i : Nat, i <= (ws).length /\ n = (ws).length - i /\ e 8 = .int .i64 i /\ idx s i (ws.drop i) = idx s 0 ws) (ws).length
   ⟨0, by omega, by omega, by simp -dsimp only [↓bp, bq, br, seval, tbQuo]; first | done | rfl, rfl⟩ ?_
 rintro n v ⟨i, hi, rfl, h8, htk⟩
 simp -dsimp only [↓bp, bq, br, seval, tbQuo] at h8
 simp -dsimp only [↓bp, bq, br, seval, tbQuo, h8]
 refine condW_dec (fun hlt => ?_) (fun hge => ?_)
 ·obtain ⟨x, hx⟩ : ∃ x, ws[i]? = some x := ⟨_, List.getElem?_eq_getElem (by omega)⟩
  rw [drop_get _ _ _ hx] at htk
  simp only [idx] at htk
  clear hi hlt
  by_cases h0 : s = x
  ·subst h0
   simp only [if_true] at htk
   rw [<- htk]
   clear htk
   repeat' (first | refine xs ?_ ?_ <;> intros | (refine wn ?_; intro bx hbx; try simp only [fb] at hbx) | refine wj ?_ | simp -dsimp only [↓bp, bq, br, seval, tbQuo, len_texts, ix_texts, *] | refine wz ?_ | fail)
   all_goals rfl
  ·rw [if_neg h0] at htk
   repeat' (first | refine xs ?_ ?_ <;> intros | (refine wn ?_; intro bx hbx; try simp only [fb] at hbx) | refine wj ?_ | simp -dsimp only [↓bp, bq, br, seval, tbQuo, len_texts, ix_texts, *] | refine wz ?_ | fail)
   all_goals (have hlt := (List.getElem?_eq_some_iff.1 hx).1)
   all_goals exact ⟨ws.length - (i + 1), by omega, i + 1, by omega, rfl, by rw [wrap_nat (by omega) (by omega)]; rfl, htk⟩
 ·have : i = ws.length := by omega
  subst this
  rw [List.drop_length] at htk
  simp only [idx] at htk
  rw [<- htk]
  clear hi hge htk
  repeat' (first | refine xs ?_ ?_ <;> intros | (refine wn ?_; intro bx hbx; try simp only [fb] at hbx) | refine wj ?_ | simp -dsimp only [↓bp, bq, br, seval, tbQuo, len_texts, ix_texts, *] | refine wz ?_ | fail)
  all_goals rfl
theorem contains_pure (ws : List (List UInt8)) (s : List UInt8) (hl : ws.length <= 1000000) : Pure Tryz.prog G 79 [texts ws, .str s] (.bool (ws.contains s)) := by
 have h := index_pure G ws s hl
 have hm := idx_mem s ws 0
 have e : ws.contains s = decide (0 <= idx s 0 ws) := by rw [Bool.eq_iff_iff, decide_eq_true_eq, hm]; simp
 rw [e]
 intro σ
 refine Tri.of_awp mixed Tryz.func79 rfl (by kernel_rfl) (by kernel_rfl) (by simp [Tryz.ntmps79]) Tryz.results79 ?_
 repeat' (first | refine xs ?_ ?_ <;> intros | (refine wn ?_; intro bx hbx; try simp only [fb] at hbx) | refine wp h ?_ | refine wj ?_ | simp -dsimp only [↓bp, bq, br, seval, tbQuo, *] | refine wz ?_ | fail)
 all_goals rfl
set_option maxHeartbeats 1000000 in
theorem inner_pure (s : List UInt8) (hs : s.length <= 1000000000) : Pure Tryz.prog G 80 [.str s] (.bool (s.all innerC)) := by
 intro σ
 have hml : s.length <= maxLen := by unfold maxLen; omega
 refine Tri.of_awp mixed Tryz.func80 rfl (by kernel_rfl) (by kernel_rfl) (by simp [Tryz.ntmps80]) Tryz.results80 ?_
 repeat' (first | refine xs ?_ ?_ <;> intros | (refine wn ?_; intro bx hbx; try simp only [fb] at hbx) | refine wj ?_ | simp -dsimp only [↓bp, bq, br, seval, tbQuo, hml, *] | refine wz ?_ | fail)
 refine loop_keep mixed (fun n e => ∃ i : Nat, i <= (s).length /\ n = (s).length - i /\ e 8 = .int .i64 i /\ ∀ x, x ∈ s.take i -> innerC x = true) (s).length
   ⟨0, by omega, by omega, by simp -dsimp only [↓bp, bq, br, seval, tbQuo]; first | done | rfl, by simp⟩ ?_
 rintro n v ⟨i, hi, rfl, h8, hno⟩
 simp -dsimp only [↓bp, bq, br, seval, tbQuo] at h8
 simp -dsimp only [↓bp, bq, br, seval, tbQuo, h8]
 refine condW_dec (fun hlt => ?_) (fun hge => ?_)
 ·obtain ⟨k, hk⟩ : ∃ k, s[i]? = some k := ⟨_, List.getElem?_eq_getElem (by omega)⟩
  have hkm : k ∈ s := List.mem_of_getElem? hk
  have step : innerC k = true -> ∀ x, x ∈ s.take (i + 1) -> innerC x = true := fun ht x hx => by
   rw [take_succ_get _ _ _ hk, List.mem_append, List.mem_singleton] at hx
   rcases hx with hx | rfl
   ·exact hno x hx
   ·exact ht
  have stop_ : innerC k = false -> s.all innerC = false := fun hf => by
   rw [List.all_eq_false]; exact ⟨k, hkm, by simp [hf]⟩
  have hic : innerC k = (decide ((97 : Int) <= k.toNat) && decide ((k.toNat : Int) <= 122) || decide ((65 : Int) <= k.toNat) && decide ((k.toNat : Int) <= 90) || decide ((48 : Int) <= k.toNat) && decide ((k.toNat : Int) <= 57) || decide ((k.toNat : Int) = 95) || decide ((k.toNat : Int) = 64)) := by
   unfold innerC
   rw [Bool.eq_iff_iff]
   simp only [Bool.or_eq_true, Bool.and_eq_true, decide_eq_true_eq]
   omega
  have hw : IntKind.i64.wrap ((i : Int) + 1) = ((i + 1 : Nat) : Int) := by rw [wrap_nat (by omega) (by omega)]; rfl
  rw [hic] at step stop_
  have hlt' := (List.getElem?_eq_some_iff.1 hk).1
  clear hic hno hi hlt
  cases hv : (decide ((97 : Int) <= k.toNat) && decide ((k.toNat : Int) <= 122) || decide ((65 : Int) <= k.toNat) && decide ((k.toNat : Int) <= 90) || decide ((48 : Int) <= k.toNat) && decide ((k.toNat : Int) <= 57) || decide ((k.toNat : Int) = 95) || decide ((k.toNat : Int) = 64))
  ·have stop_ := stop_ hv
   rw [stop_]
   simp only [Bool.or_eq_false_iff, Bool.and_eq_false_iff, decide_eq_false_iff_not] at hv
   clear step stop_
   repeat' (first | refine xs ?_ ?_ <;> intros | (refine wn ?_; intro bx hbx; try simp only [fb] at hbx) | refine wj ?_ | simp -dsimp only [↓bp, bq, br, seval, tbQuo, hk, hw, *] | refine wz ?_ | fail)
   all_goals first | rfl | (exfalso; omega)
  ·have step := step hv
   simp only [Bool.or_eq_true, Bool.and_eq_true, decide_eq_true_eq] at hv
   clear stop_
   repeat' (first | refine xs ?_ ?_ <;> intros | (refine wn ?_; intro bx hbx; try simp only [fb] at hbx) | refine wj ?_ | simp -dsimp only [↓bp, bq, br, seval, tbQuo, hk, hw, *] | refine wz ?_ | fail)
   all_goals first | exact ⟨s.length - (i + 1), by omega, i + 1, by omega, rfl, rfl, step⟩ | (exfalso; omega)
 ·have : i = s.length := by omega
  subst this
  rw [List.take_length] at hno
  have he : s.all innerC = true := List.all_eq_true.2 hno
  rw [he]
  clear hno hi hge
  repeat' (first | refine xs ?_ ?_ <;> intros | (refine wn ?_; intro bx hbx; try simp only [fb] at hbx) | refine wj ?_ | simp -dsimp only [↓bp, bq, br, seval, tbQuo, *] | refine wz ?_ | fail)
  all_goals rfl
end Go.Proofs.YtdhbdhopnpmboaaGreatDoor
set_option maxRecDepth 20000
namespace Go.Proofs.YtdhbdhopnpmboaaGreatDoor
open Go Go.Av
def tbQuo2 := And.intro (And.intro (And.intro @tf3 (And.intro @tf4 @tf5)) (And.intro @tf9 (And.intro @tf45 @tf44))) (And.intro (And.intro @tf105 (And.intro @tf56 @tf54)) (And.intro @tf106 (And.intro @isv_byteA @flat_byteA)))
variable {G : Nat -> AV}
structure Glob (G : Nat -> AV) : Prop where
 words : G 0 = .rp (Proofs.YtdhbdhopnpmboaaGreatDoor.words.map AV.str)
theorem words_len : (words.map AV.str).length = 19 := rfl
theorem plainA_pure (hg : Glob G) (s : List UInt8) (hs : s.length <= 1000000000) : Pure Tryz.prog G 45 [.str s] (.bool (plainA s)) := by
 have hi := inner_pure G s hs
 have hc := contains_pure G words s (by decide)
 have hw := hg.words
 have h19 : rsk (some (19, 1)) (words.map AV.str) = some (texts words) := by
  show (if 19 = (words.map AV.str).length /\ 19 <= maxLen then some (AV.sl .none (words.map AV.str) []) else none) = _
  exact if_pos ⟨words_len.symm, by unfold maxLen; decide⟩
 have ha : arrT Tryz.prog 105 = some (19, 1) := tf105.2.2.2.2.2.2.1
 have has : aslice Tryz.prog 105 (.rp (words.map AV.str)) none none = some (texts words) := by rw [aslice_rp, ha, h19]
 cases s with
 | nil =>
  intro σ
  clear hi hc
  refine Tri.of_awp mixed Tryz.func45 rfl (by kernel_rfl) (by kernel_rfl) (by simp [Tryz.ntmps45]) Tryz.results45 ?_
  repeat' (first | refine xs ?_ ?_ <;> intros | (refine wn ?_; intro bx hbx; try simp only [fb] at hbx) | refine wj ?_ | simp -dsimp only [↓bp, bq, br, seval, tbQuo2, *] | refine wz ?_ | fail)
  all_goals rfl
 | cons c l =>
  have hp : plainA (c :: l) = (decide (97 <= c.toNat) && decide (c.toNat <= 122) && !words.contains (c :: l) && (c :: l).all innerC) := rfl
  have hx : (c :: l)[0]? = some c := rfl
  have hne : ¬ (c :: l) = [] := by simp
  rw [hp]
  generalize (c :: l) = s at *
  clear hp
  generalize words.contains s = wc at *
  generalize s.all innerC = si at *
  have e1 : ((97 : Int) <= c.toNat) ↔ 97 <= c.toNat := by omega
  have e2 : ((c.toNat : Int) <= 122) ↔ c.toNat <= 122 := by omega
  by_cases h1 : 97 <= c.toNat
  ·have g1 : ¬ (c.toNat : Int) < 97 := by omega
   by_cases h2 : c.toNat <= 122
   ·have g2 : ¬ (122 : Int) < c.toNat := by omega
    have q1 := decide_eq_true h1
    have q2 := decide_eq_true h2
    rw [q1, q2]
    clear h1 h2 e1 e2 q1 q2
    intro σ
    cases wc
    ·refine Tri.of_awp mixed Tryz.func45 rfl (by kernel_rfl) (by kernel_rfl) (by simp [Tryz.ntmps45]) Tryz.results45 ?_
     repeat' (first | refine xs ?_ ?_ <;> intros | (refine wn ?_; intro bx hbx; try simp only [fb] at hbx) | refine wp hc ?_ | refine wp hi ?_ | refine wj ?_ | simp -dsimp only [↓bp, bq, br, seval, tbQuo2, *] | refine wz ?_ | fail)
     all_goals rfl
    ·refine Tri.of_awp mixed Tryz.func45 rfl (by kernel_rfl) (by kernel_rfl) (by simp [Tryz.ntmps45]) Tryz.results45 ?_
     repeat' (first | refine xs ?_ ?_ <;> intros | (refine wn ?_; intro bx hbx; try simp only [fb] at hbx) | refine wp hc ?_ | refine wp hi ?_ | refine wj ?_ | simp -dsimp only [↓bp, bq, br, seval, tbQuo2, *] | refine wz ?_ | fail)
     all_goals rfl
   ·have g2 : (122 : Int) < c.toNat := by omega
    have q2 := decide_eq_false h2
    rw [q2]
    simp only [Bool.and_false, Bool.false_and]
    clear h1 h2 e1 e2 q2
    intro σ
    refine Tri.of_awp mixed Tryz.func45 rfl (by kernel_rfl) (by kernel_rfl) (by simp [Tryz.ntmps45]) Tryz.results45 ?_
    repeat' (first | refine xs ?_ ?_ <;> intros | (refine wn ?_; intro bx hbx; try simp only [fb] at hbx) | refine wp hc ?_ | refine wp hi ?_ | refine wj ?_ | simp -dsimp only [↓bp, bq, br, seval, tbQuo2, *] | refine wz ?_ | fail)
    all_goals rfl
  ·have g1 : (c.toNat : Int) < 97 := by omega
   have q1 := decide_eq_false h1
   rw [q1]
   simp only [Bool.and_false, Bool.false_and]
   clear h1 e1 e2 q1
   intro σ
   refine Tri.of_awp mixed Tryz.func45 rfl (by kernel_rfl) (by kernel_rfl) (by simp [Tryz.ntmps45]) Tryz.results45 ?_
   repeat' (first | refine xs ?_ ?_ <;> intros | (refine wn ?_; intro bx hbx; try simp only [fb] at hbx) | refine wp hc ?_ | refine wp hi ?_ | refine wj ?_ | simp -dsimp only [↓bp, bq, br, seval, tbQuo2, *] | refine wz ?_ | fail)
   all_goals rfl
theorem wb {σ0 σ : AS} {b : Nat} {xs : List UInt8} (h : Bl σ0 σ b xs) (hl : xs.length <= 1000000000) (c : UInt8) (n : Int) (hn : n = c.toNat) :
  Tri Tryz.prog G 42 [.ptr b 0, .int .u8 n] σ fun r σ' => Bl σ0 σ' b (xs ++ [c]) := by subst hn; exact writeByte_tri G h hl c
def hexT : List UInt8 := [48, 49, 50, 51, 52, 53, 54, 55, 56, 57, 97, 98, 99, 100, 101, 102]
theorem hex_at : ∀ k, k < 16 -> hexT[k]? = some (hexD k) := by decide
theorem fdiv16 (c : UInt8) : ((c.toNat : Int).fdiv (2 ^ min 4 IntKind.u8.bits)) = ((c.toNat / 16 : Nat) : Int) := by
 have : ((2 : Int) ^ min 4 IntKind.u8.bits) = ((16 : Nat) : Int) := by decide
 rw [this, Int.fdiv_eq_ediv_of_nonneg _ (by omega)]; rfl
theorem and15 (c : UInt8) : IntKind.u8.wrap ((BitVec.ofInt IntKind.u8.bits (c.toNat : Int) &&& BitVec.ofInt IntKind.u8.bits 15).toNat : Int) = ((c.toNat % 16 : Nat) : Int) := by
 have hb : IntKind.u8.bits = 8 := rfl
 have hc := c.toNat_lt
 rw [hb, BitVec.toNat_and, BitVec.toNat_ofInt, BitVec.toNat_ofInt]
 have e1 : ((c.toNat : Int) % ((2 ^ 8 : Nat) : Int)).toNat = c.toNat := by omega
 have e2 : ((15 : Int) % ((2 ^ 8 : Nat) : Int)).toNat = 15 := by decide
 rw [e1, e2, show (15 : Nat) = 2 ^ 4 - 1 by decide, Nat.and_two_pow_sub_one_eq_mod, IntKind.wrap_u8]
 omega
end Go.Proofs.YtdhbdhopnpmboaaGreatDoor
set_option maxRecDepth 20000
namespace Go.Proofs.YtdhbdhopnpmboaaGreatDoor
open Go Go.Av
def tbQuo3 := And.intro (And.intro (And.intro @tf3 @tf4) (And.intro @tf5 (And.intro @tf9 @tf45))) (And.intro (And.intro @tf56 @tf54) (And.intro @tf106 (And.intro @isv_byteA @flat_byteA)))
variable {G : Nat -> AV}
theorem quoC_len (c : UInt8) : (quoC c).length <= 4 := by
 unfold quoC; repeat' split
 all_goals simp
theorem quoCs_len (s : List UInt8) : (s.flatMap quoC).length <= 4 * s.length := by
 induction s with
 | nil => simp
 | cons c s ih => have := quoC_len c; simp only [List.flatMap_cons, List.length_append, List.length_cons]; omega
set_option maxHeartbeats 1000000 in
theorem quoted_pure (s : List UInt8) (hs : s.length <= 100000000) : Pure Tryz.prog G 46 [.str s] (.str (quoted s)) := by
 intro σ
 have hml : s.length <= maxLen := by unfold maxLen; omega
 refine Tri.of_awp mixed Tryz.func46 rfl (by kernel_rfl) (by kernel_rfl) (by simp [Tryz.ntmps46]) Tryz.results46 ?_
 simp -dsimp only [↓bp, bq, br, seval, tbQuo3]
 refine newT_ty (fun b hb => ?_)
 have hB0 : Bl σ ((σ.setBox b [.nilptr, .nil]).setTy b (.t 56, 2)) b [] := Bld.start (AS.le.refl σ) hb
 simp only [List.length_cons, List.length_nil, Nat.zero_add, Nat.reduceAdd]
 generalize (σ.setBox b [.nilptr, .nil]).setTy b (.t 56, 2) = σ0 at *
 repeat' (first | refine xs ?_ ?_ <;> intros | (refine wn ?_; intro bx hbx; try simp only [fb] at hbx) | ((refine Tri.mono (wb hB0 (by simp) 39 39 rfl) ?_; rintro r s1 hB1)) | refine wj ?_ | simp -dsimp only [↓bp, bq, br, seval, tbQuo3, hml, *] | refine wz ?_ | fail)
 refine loop_intro (fun n e σ' => ∃ i : Nat, i <= s.length /\ n = s.length - i /\ e 10 = .int .i64 i /\ Bl σ σ' b (39 :: (s.take i).flatMap quoC)) s.length ⟨0, by omega, by omega, by first | (simp -dsimp only [↓bp, bq, br, seval, tbQuo3]; done) | (simp -dsimp only [↓bp, bq, br, seval, tbQuo3]; try rfl), by simpa using hB1⟩ ?_
 rintro n v σ' ⟨i, hi, rfl, h10, hB⟩
 simp -dsimp only [↓bp, bq, br, seval, tbQuo3] at h10
 by_cases hlt : (i : Int) < s.length
 ·obtain ⟨c, hc⟩ : ∃ c, s[i]? = some c := ⟨_, List.getElem?_eq_getElem (by omega)⟩
  have hts : (s.take (i + 1)).flatMap quoC = (s.take i).flatMap quoC ++ quoC c := by rw [take_succ_get _ _ _ hc, List.flatMap_append]; simp
  have hq := quoCs_len (s.take i)
  have hti : (s.take i).length = i := by rw [List.length_take]; omega
  have hlen : (39 :: (s.take i).flatMap quoC).length <= 500000000 := by simp only [List.length_cons]; omega
  have hw : IntKind.i64.wrap ((i : Int) + 1) = ((i + 1 : Nat) : Int) := by rw [wrap_nat (by omega) (by omega)]; rfl
  have hnext : ∀ s2 : AS, Bl σ s2 b (39 :: (s.take i).flatMap quoC ++ quoC c) -> ∃ m, m < s.length - i /\ ∃ i_1, i_1 <= s.length /\ m = s.length - i_1 /\ AV.int .i64 ((i + 1 : Nat) : Int) = .int .i64 i_1 /\ Bl σ s2 b (39 :: (s.take i_1).flatMap quoC) := fun s2 h2 =>
   ⟨s.length - (i + 1), by omega, i + 1, by omega, rfl, rfl, by rw [hts]; simpa using h2⟩
  clear hts hq hti hi
  generalize 39 :: (s.take i).flatMap quoC = out at *
  by_cases k1 : c.toNat = 39 \/ c.toNat = 92
  ·have hqc : quoC c = [92] ++ [c] := by unfold quoC; rw [if_pos k1]; rfl
   rw [hqc] at hnext
   have k1' : (c.toNat : Int) = 39 \/ (c.toNat : Int) = 92 := by omega
   clear hqc k1
   rcases k1' with k1' | k1'
   ·have kk := eq_true k1'
    clear k1'
    repeat' (first | refine xs ?_ ?_ <;> intros | (refine wn ?_; intro bx hbx; try simp only [fb] at hbx) | ((refine Tri.mono (wb hB (by omega) 92 92 rfl) ?_; rintro r s1 hBB)) | ((refine Tri.mono (wb hBB (by simp; omega) c _ rfl) ?_; rintro r s2 hB2)) | refine wj ?_ | simp -dsimp only [↓bp, bq, br, seval, tbQuo3, hw, *] | refine wz ?_ | fail)
    all_goals exact hnext _ (by simpa using hB2)
   ·have kk := eq_true k1'
    have kk2 := eq_false (show ¬ (c.toNat : Int) = 39 by omega)
    clear k1'
    repeat' (first | refine xs ?_ ?_ <;> intros | (refine wn ?_; intro bx hbx; try simp only [fb] at hbx) | ((refine Tri.mono (wb hB (by omega) 92 92 rfl) ?_; rintro r s1 hBB)) | ((refine Tri.mono (wb hBB (by simp; omega) c _ rfl) ?_; rintro r s2 hB2)) | refine wj ?_ | simp -dsimp only [↓bp, bq, br, seval, tbQuo3, hw, *] | refine wz ?_ | fail)
    all_goals exact hnext _ (by simpa using hB2)
  ·have j1 := eq_false (show ¬ (c.toNat : Int) = 39 by omega)
   have j2 := eq_false (show ¬ (c.toNat : Int) = 92 by omega)
   by_cases k2 : c.toNat = 10
   ·have hqc : quoC c = [92, 110] := by unfold quoC; rw [if_neg k1, if_pos k2]
    rw [hqc] at hnext
    have j3 := eq_true (show (c.toNat : Int) = 10 by omega)
    clear hqc k1 k2
    repeat' (first | refine xs ?_ ?_ <;> intros | (refine wn ?_; intro bx hbx; try simp only [fb] at hbx) | ((refine Tri.mono (writeString_tri _ hB [92, 110] (by simp; omega)) ?_; rintro r s2 hB2)) | refine wj ?_ | simp -dsimp only [↓bp, bq, br, seval, tbQuo3, hw, *] | refine wz ?_ | fail)
    all_goals exact hnext _ (by simpa using hB2)
   ·have j3 := eq_false (show ¬ (c.toNat : Int) = 10 by omega)
    by_cases k3 : c.toNat < 32 \/ 126 < c.toNat
    ·have hqc : quoC c = [92, 120] ++ [hexD (c.toNat / 16)] ++ [hexD (c.toNat % 16)] := by unfold quoC; rw [if_neg k1, if_neg k2, if_pos k3]; rfl
     rw [hqc] at hnext
     have hcl := c.toNat_lt
     have hx1 := hex_at (c.toNat / 16) (by omega)
     have hx2 := hex_at (c.toNat % 16) (by omega)
     unfold hexT at hx1 hx2
     have f1 := fdiv16 c
     have f2 := and15 c
     have hn1 : (0 : Int) <= ((c.toNat / 16 : Nat) : Int) := Int.natCast_nonneg _
     have hn2 : (0 : Int) <= ((c.toNat % 16 : Nat) : Int) := Int.natCast_nonneg _
     generalize c.toNat / 16 = d1 at *
     generalize c.toNat % 16 = d2 at *
     have k3' : (c.toNat : Int) < 32 \/ ¬ (c.toNat : Int) < 32 /\ 126 < (c.toNat : Int) := by omega
     clear hqc k1 k2 k3 hcl
     rcases k3' with k3 | ⟨k3, k4⟩
     ·have k3 := eq_true k3
      repeat' (first | refine xs ?_ ?_ <;> intros | (refine wn ?_; intro bx hbx; try simp only [fb] at hbx) | ((refine Tri.mono (writeString_tri _ hB [92, 120] (by simp; omega)) ?_; rintro r s2 hB2)) | ((refine Tri.mono (wb hB2 (by simp; omega) (hexD d1) _ rfl) ?_; rintro r s3 hB3)) | ((refine Tri.mono (wb hB3 (by simp; omega) (hexD d2) _ rfl) ?_; rintro r s4 hB4)) | refine wj ?_ | simp -dsimp only [↓bp, bq, br, seval, tbQuo3, hw, *] | refine wz ?_ | fail)
      all_goals exact hnext _ (by simpa using hB4)
     ·have k3 := eq_false k3
      repeat' (first | refine xs ?_ ?_ <;> intros | (refine wn ?_; intro bx hbx; try simp only [fb] at hbx) | ((refine Tri.mono (writeString_tri _ hB [92, 120] (by simp; omega)) ?_; rintro r s2 hB2)) | ((refine Tri.mono (wb hB2 (by simp; omega) (hexD d1) _ rfl) ?_; rintro r s3 hB3)) | ((refine Tri.mono (wb hB3 (by simp; omega) (hexD d2) _ rfl) ?_; rintro r s4 hB4)) | refine wj ?_ | simp -dsimp only [↓bp, bq, br, seval, tbQuo3, hw, *] | refine wz ?_ | fail)
      all_goals exact hnext _ (by simpa using hB4)
    ·have hqc : quoC c = [c] := by unfold quoC; rw [if_neg k1, if_neg k2, if_neg k3]
     rw [hqc] at hnext
     have j4 := eq_false (show ¬ (c.toNat : Int) < 32 by omega)
     have j5 := eq_false (show ¬ (126 : Int) < c.toNat by omega)
     clear hqc k1 k2 k3
     repeat' (first | refine xs ?_ ?_ <;> intros | (refine wn ?_; intro bx hbx; try simp only [fb] at hbx) | ((refine Tri.mono (wb hB (by omega) c _ rfl) ?_; rintro r s2 hB2)) | refine wj ?_ | simp -dsimp only [↓bp, bq, br, seval, tbQuo3, hw, *] | refine wz ?_ | fail)
     all_goals exact hnext _ (by simpa using hB2)
 ·have : i = s.length := by omega
  subst this
  rw [List.take_length] at hB
  have hq := quoCs_len s
  clear hi
  repeat' (first | refine xs ?_ ?_ <;> intros | (refine wn ?_; intro bx hbx; try simp only [fb] at hbx) | ((refine Tri.mono (wb hB (by simp only [List.length_cons]; omega) 39 39 rfl) ?_; rintro r s1 hBB)) | ((refine Tri.mono (string_tri _ hBB (by simp only [List.length_append, List.length_cons, List.length_nil]; omega)) ?_; rintro r s2 ⟨rfl, rfl⟩)) | refine wj ?_ | simp -dsimp only [↓bp, bq, br, seval, tbQuo3, *] | refine wz ?_ | fail)
  all_goals simp [quoted]
end Go.Proofs.YtdhbdhopnpmboaaGreatDoor
set_option maxRecDepth 20000
namespace Go.Proofs.YtdhbdhopnpmboaaGreatDoor
open Go Go.Av
def tbCmp := And.intro (And.intro (And.intro (And.intro @tf3 (And.intro @tf4 @tf5)) (And.intro @tf47 (And.intro @tf9 @tf23))) (And.intro (And.intro @tf22 (And.intro @tf24 @tf26)) (And.intro @tf147 (And.intro @Term.flat_enc @Term.isv_enc)))) (And.intro (And.intro (And.intro @Term.fold_enc (And.intro @isv_encs @flat_encs)) (And.intro @len_encs (And.intro @ix_encs @ix_encs'))) (And.intro (And.intro @isv_lims (And.intro @flat_lims @len_lims)) (And.intro @ix_lims (And.intro @ix_lims' @flat_limA))))
variable (G : Nat -> AV)
theorem s_gtr {a b : List UInt8} : abinS .gtr a b = some (.bool (!(Op.bytesLess a b || a == b))) := rfl
theorem nself (a : Int) : (a = a) = True := eq_true rfl
theorem nanK_pure (a : Int) : Pure Tryz.prog G 158 [.int .u8 a] (.bool false) := by
 intro σ
 refine Tri.of_awp mixed Tryz.func158 rfl (by kernel_rfl) (by kernel_rfl) (by simp [Tryz.ntmps158]) Tryz.results158 ?_
 repeat' (first | refine xs ?_ ?_ <;> intros | (refine wn ?_; intro bx hbx; try simp only [fb] at hbx) | refine wj ?_ | simp -dsimp only [↓bp, bq, br, seval, tbCmp, s_gtr, nself, *] | refine wz ?_ | fail)
 all_goals simp
theorem nanI_pure (a : Int) : Pure Tryz.prog G 159 [.int .i64 a] (.bool false) := by
 intro σ
 refine Tri.of_awp mixed Tryz.func159 rfl (by kernel_rfl) (by kernel_rfl) (by simp [Tryz.ntmps159]) Tryz.results159 ?_
 repeat' (first | refine xs ?_ ?_ <;> intros | (refine wn ?_; intro bx hbx; try simp only [fb] at hbx) | refine wj ?_ | simp -dsimp only [↓bp, bq, br, seval, tbCmp, s_gtr, nself, *] | refine wz ?_ | fail)
 all_goals simp
theorem nanS_pure (a : List UInt8) : Pure Tryz.prog G 162 [.str a] (.bool false) := by
 intro σ
 refine Tri.of_awp mixed Tryz.func162 rfl (by kernel_rfl) (by kernel_rfl) (by simp [Tryz.ntmps162]) Tryz.results162 ?_
 repeat' (first | refine xs ?_ ?_ <;> intros | (refine wn ?_; intro bx hbx; try simp only [fb] at hbx) | refine wj ?_ | simp -dsimp only [↓bp, bq, br, seval, tbCmp, s_gtr, nself, *] | refine wz ?_ | fail)
 all_goals simp
theorem cmpK_pure (a b : Int) : Pure Tryz.prog G 113 [.int .u8 a, .int .u8 b] (.int .i64 (cmpI a b)) := by
 have h1 := nanK_pure G a
 have h2 := nanK_pure G b
 intro σ
 refine Tri.of_awp mixed Tryz.func113 rfl (by kernel_rfl) (by kernel_rfl) (by simp [Tryz.ntmps113]) Tryz.results113 ?_
 repeat' (first | refine xs ?_ ?_ <;> intros | (refine wn ?_; intro bx hbx; try simp only [fb] at hbx) | refine wp h1 ?_ | refine wp h2 ?_ | refine wj ?_ | simp -dsimp only [↓bp, bq, br, seval, tbCmp, s_gtr, nself, *] | refine wz ?_ | fail)
 all_goals (first | (simp only [cmpI, *, Bool.and_true, Bool.true_and, Bool.and_false, Bool.false_and, Bool.or_true, Bool.true_or, Bool.or_false, Bool.false_or, Bool.not_true, Bool.not_false, if_true, if_false, Bool.and_self, Bool.or_self]; done) | (simp [cmpI, *]; done) | (simp_all [cmpI]; done))
theorem cmpI_pure (a b : Int) : Pure Tryz.prog G 114 [.int .i64 a, .int .i64 b] (.int .i64 (cmpI a b)) := by
 have h1 := nanI_pure G a
 have h2 := nanI_pure G b
 intro σ
 refine Tri.of_awp mixed Tryz.func114 rfl (by kernel_rfl) (by kernel_rfl) (by simp [Tryz.ntmps114]) Tryz.results114 ?_
 repeat' (first | refine xs ?_ ?_ <;> intros | (refine wn ?_; intro bx hbx; try simp only [fb] at hbx) | refine wp h1 ?_ | refine wp h2 ?_ | refine wj ?_ | simp -dsimp only [↓bp, bq, br, seval, tbCmp, s_gtr, nself, *] | refine wz ?_ | fail)
 all_goals (first | (simp only [cmpI, *, Bool.and_true, Bool.true_and, Bool.and_false, Bool.false_and, Bool.or_true, Bool.true_or, Bool.or_false, Bool.false_or, Bool.not_true, Bool.not_false, if_true, if_false, Bool.and_self, Bool.or_self]; done) | (simp [cmpI, *]; done) | (simp_all [cmpI]; done))
theorem bytesLess_eq : ∀ a b : List UInt8, Op.bytesLess a b = decide (cmpS a b = -1) /\ (a == b) = decide (cmpS a b = 0)
 | [], [] => by simp [Op.bytesLess, cmpS]
 | [], _ :: _ => by simp [Op.bytesLess, cmpS]
 | _ :: _, [] => by simp [Op.bytesLess, cmpS]
 | a :: l, b :: r => by
  obtain ⟨h1, h2⟩ := bytesLess_eq l r
  have hz := cmpS_zero (a :: l) (b :: r)
  refine ⟨?_, by rw [Bool.eq_iff_iff]; simp only [decide_eq_true_eq, beq_iff_eq]; rw [cmpS_zero]⟩
  simp only [Op.bytesLess, h1, cmpS, lex, cmpI, UInt8.lt_iff_toNat_lt]
  by_cases c1 : a.toNat < b.toNat
  ·have c2 : (a.toNat : Int) < b.toNat := by omega
   simp [c1, c2]
  ·have c2 : ¬ (a.toNat : Int) < b.toNat := by omega
   by_cases c3 : b.toNat < a.toNat
   ·have c4 : (b.toNat : Int) < a.toNat := by omega
    have c5 : ¬ a = b := fun e => by subst e; omega
    simp [c1, c2, c3, c4, c5]
   ·have c4 : ¬ (b.toNat : Int) < a.toNat := by omega
    have c5 : a = b := UInt8.toNat_inj.1 (by omega)
    subst c5
    simp
theorem cmpS_pure (a b : List UInt8) : Pure Tryz.prog G 119 [.str a, .str b] (.int .i64 (cmpS a b)) := by
 have h1 := nanS_pure G a
 have h2 := nanS_pure G b
 obtain ⟨e1, e2⟩ := bytesLess_eq a b
 have hr := cmpS_R a b
 intro σ
 rcases hr with hr | hr | hr <;> rw [hr] at e1 e2 ⊢
 all_goals
  simp at e1 e2
  refine Tri.of_awp mixed Tryz.func119 rfl (by kernel_rfl) (by kernel_rfl) (by simp [Tryz.ntmps119]) Tryz.results119 ?_
  repeat' (first | refine xs ?_ ?_ <;> intros | (refine wn ?_; intro bx hbx; try simp only [fb] at hbx) | refine wp h1 ?_ | refine wp h2 ?_ | refine wj ?_ | simp -dsimp only [↓bp, bq, br, seval, tbCmp, s_gtr, nself, *] | refine wz ?_ | fail)
  all_goals first | rfl | (simp_all; done)
def ints (l : List Int) : AV := .sl .none (l.map fun n => .int .i64 n) []
def orI : List Int -> Int
 | [] => 0
 | x :: l => if x = 0 then orI l else x
theorem or_pure (l : List Int) (hl : l.length <= 1000000000) : Pure Tryz.prog G 118 [ints l] (.int .i64 (orI l)) := by
 intro σ
 unfold ints
 refine Tri.of_awp mixed Tryz.func118 rfl (by kernel_rfl) (by kernel_rfl) (by simp [Tryz.ntmps118]) Tryz.results118 ?_
 repeat' (first | refine xs ?_ ?_ <;> intros | (refine wn ?_; intro bx hbx; try simp only [fb] at hbx) | refine wj ?_ | simp -dsimp only [↓bp, bq, br, seval, tbCmp, s_gtr, nself, *] | refine wz ?_ | fail)
 refine loop_keep mixed (fun n e => ∃ i : Nat, i <= (l).length /\ n = (l).length - i /\ e 8 = .int .i64 i /\ orI (l.drop i) = orI l) (l).length
   ⟨0, by omega, by omega, by simp -dsimp only [↓bp, bq, br, seval, tbCmp, s_gtr, nself]; first | done | rfl, rfl⟩ ?_
 rintro n v ⟨i, hi, rfl, h8, htk⟩
 simp -dsimp only [↓bp, bq, br, seval, tbCmp, s_gtr, nself] at h8
 simp -dsimp only [↓bp, bq, br, seval, tbCmp, s_gtr, nself, h8]
 refine condW_dec (fun hlt => ?_) (fun hge => ?_)
 ·obtain ⟨x, hx⟩ : ∃ x, l[i]? = some x := ⟨_, List.getElem?_eq_getElem (by omega)⟩
  have hd := drop_get _ _ _ hx
  rw [hd] at htk
  clear hi hlt hd
  by_cases h0 : x = 0
  ·subst h0
   repeat' (first | refine xs ?_ ?_ <;> intros | (refine wn ?_; intro bx hbx; try simp only [fb] at hbx) | refine wj ?_ | simp -dsimp only [↓bp, bq, br, seval, tbCmp, s_gtr, nself, *] | refine wz ?_ | fail)
   all_goals (have hlt := (List.getElem?_eq_some_iff.1 hx).1)
   all_goals exact ⟨l.length - (i + 1), by omega, i + 1, by omega, rfl, by rw [wrap_nat (by omega) (by omega)]; rfl, by simpa [orI] using htk⟩
  ·repeat' (first | refine xs ?_ ?_ <;> intros | (refine wn ?_; intro bx hbx; try simp only [fb] at hbx) | refine wj ?_ | simp -dsimp only [↓bp, bq, br, seval, tbCmp, s_gtr, nself, *] | refine wz ?_ | fail)
   all_goals simp_all [orI]
 ·have : i = l.length := by omega
  subst this
  rw [List.drop_length] at htk
  clear hi hge
  repeat' (first | refine xs ?_ ?_ <;> intros | (refine wn ?_; intro bx hbx; try simp only [fb] at hbx) | refine wj ?_ | simp -dsimp only [↓bp, bq, br, seval, tbCmp, s_gtr, nself, *] | refine wz ?_ | fail)
  all_goals simp [<- htk, orI]
theorem or2_pure (a b : Int) : Pure Tryz.prog G 118 [.sl .full [.int .i64 a, .int .i64 b] []] (.int .i64 (lex a b)) := by
 have h := (or_pure G [a, b] (by simp)).lessArgs (args := [.sl .full [.int .i64 a, .int .i64 b] []]) (.cons Le.gh .nil)
 have e : orI [a, b] = lex a b := by simp only [orI, lex]; split <;> (try split) <;> simp_all
 rwa [e] at h
theorem or3_pure (a b c : Int) : Pure Tryz.prog G 118 [.sl .full [.int .i64 a, .int .i64 b, .int .i64 c] []] (.int .i64 (lex a (lex b c))) := by
 have h := (or_pure G [a, b, c] (by simp)).lessArgs (args := [.sl .full [.int .i64 a, .int .i64 b, .int .i64 c] []]) (.cons Le.gh .nil)
 have e : orI [a, b, c] = lex a (lex b c) := by simp only [orI, lex]; split <;> (try split) <;> (try split) <;> simp_all
 rwa [e] at h
end Go.Proofs.YtdhbdhopnpmboaaGreatDoor
