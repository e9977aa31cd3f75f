/-
  DERIVED: THE SHELF's CONTRACTS AT THIS DUMP, IN PLAIN WORDS (tools/lay-plain.mjs out of 'TrydShelf.lean', which tools/lay-shelf.mjs wrote): THE SAME DECLARATIONS UNDER THE SAME NAMES: 'import', 'namespace', 'open', 'def', 'theorem' AND NOTHING ELSE: no command of the shelf's: FOR A HAND-IN. Each laying: the table of numbers ('.._ren') and one theorem, a field a fact of the dump's own or the kernel's comparison; each contract: ONE APPLICATION.
-/
import Derived.Shelf.Strings.Trim
import Derived.Shelf.Small.Utf8
import Derived.Shelf.Small.Strs
import Derived.Shelf.Strconv.Itoa0
import Derived.Shelf.Strconv.Itoa1
import Derived.Shelf.LaysM
import Derived.Shelf.Strconv.Itoa2
import Derived.Shelf.Strconv.Itoa3
import Derived.Shelf.Strconv.Lower
import Derived.Shelf.Strings.Search1
import Derived.Shelf.Strings.Search2
import Derived.Shelf.Strings.Search3
import Derived.Shelf.Strings.Shaped
import Derived.Shelf.Strings.Prefix
import Derived.Shelf.Unicode.Decode
import Derived.Shelf.Strings.Runes
import Derived.Shelf.Strings.AsciiSet
import Derived.Shelf.Unicode.DecodeSlow
import Derived.Shelf.Unicode.DecodeAny
import Derived.Shelf.Unicode.DecodeLast
import Derived.Ground.Names2Prog
import Derived.Shelf.Slices.Clone
import Derived.Ground.SlgnProg
import Derived.Shelf.SlicesE.Clone
import Derived.Test.YtldmniappliepaaDoorProg
import Derived.Test.YtldmniappliepaaDoorZ05
import Derived.Shelf.Strings.SlTrimAscii
set_option linter.defProp false
namespace Go.Proofs
open Go.Shelf
def Tryd.lays160_ren : Go.Shelf.Ren := ⟨fun | 160 => 29 | 232 => 34 | 231 => 33 | 227 => 35 | 234 => 37 | 233 => 36 | 236 => 39 | 235 => 38 | 228 => 43 | 271 => 46 | 151 => 45 | 197 => 44 | 120 => 58 | 152 => 57 | 260 => 56 | 137 => 14 | 119 => 63 | 224 => 54 | 225 => 53 | 217 => 17 | 266 => 27 | n => n, fun | 9 => 9 | 4 => 4 | 3 => 3 | 5 => 5 | 117 => 64 | 116 => 63 | 0 => 0 | 124 => 67 | 21 => 21 | 105 => 69 | 46 => 74 | 119 => 88 | 139 => 91 | 138 => 90 | n => n, fun | 3 => 5 | 4 => 6 | n => n⟩
theorem Tryd.lays160 : Go.Proofs.Lays.n160 Tryd.prog Tryd.lays160_ren := {
  mixed := by kernel_rfl
  f119 := Tryd.func63.trans (congrArg some (by kernel_rfl))
  f120 := Tryd.func58.trans (congrArg some (by kernel_rfl))
  f137 := Tryd.func14.trans (congrArg some (by kernel_rfl))
  f151 := Tryd.func45.trans (congrArg some (by kernel_rfl))
  f152 := Tryd.func57.trans (congrArg some (by kernel_rfl))
  f160 := Tryd.func29.trans (congrArg some (by kernel_rfl))
  f197 := Tryd.func44.trans (congrArg some (by kernel_rfl))
  f217 := Tryd.func17.trans (congrArg some (by kernel_rfl))
  f224 := Tryd.func54.trans (congrArg some (by kernel_rfl))
  f225 := Tryd.func53.trans (congrArg some (by kernel_rfl))
  f227 := Tryd.func35.trans (congrArg some (by kernel_rfl))
  f228 := Tryd.func43.trans (congrArg some (by kernel_rfl))
  f231 := Tryd.func33.trans (congrArg some (by kernel_rfl))
  f232 := Tryd.func34.trans (congrArg some (by kernel_rfl))
  f233 := Tryd.func36.trans (congrArg some (by kernel_rfl))
  f234 := Tryd.func37.trans (congrArg some (by kernel_rfl))
  f235 := Tryd.func38.trans (congrArg some (by kernel_rfl))
  f236 := Tryd.func39.trans (congrArg some (by kernel_rfl))
  f260 := Tryd.func56.trans (congrArg some (by kernel_rfl))
  f266 := Tryd.func27.trans (congrArg some (by kernel_rfl))
  f271 := Tryd.func46.trans (congrArg some (by kernel_rfl))
  t0 := Tryd.underlying0
  a0 := Tryd.isAgg0
  z0 := Tryd.sizeOf0
  v0 := Tryd.zeroValue0
  t3 := Tryd.underlying3
  a3 := Tryd.isAgg3
  z3 := Tryd.sizeOf3
  v3 := Tryd.zeroValue3
  t4 := Tryd.underlying4
  a4 := Tryd.isAgg4
  z4 := Tryd.sizeOf4
  v4 := Tryd.zeroValue4
  t5 := Tryd.underlying5
  a5 := Tryd.isAgg5
  z5 := Tryd.sizeOf5
  v5 := Tryd.zeroValue5
  t9 := Tryd.underlying9
  a9 := Tryd.isAgg9
  z9 := Tryd.sizeOf9
  v9 := Tryd.zeroValue9
  t21 := Tryd.underlying21
  a21 := Tryd.isAgg21
  z21 := Tryd.sizeOf21
  v21 := Tryd.zeroValue21
  t46 := Tryd.underlying74
  a46 := Tryd.isAgg74
  z46 := Tryd.sizeOf74
  v46 := Tryd.zeroValue74
  t105 := Tryd.underlying69
  a105 := Tryd.isAgg69
  z105 := Tryd.sizeOf69
  v105 := Tryd.zeroValue69
  t116 := Tryd.underlying63
  a116 := Tryd.isAgg63
  z116 := Tryd.sizeOf63
  t117 := Tryd.underlying64
  a117 := Tryd.isAgg64
  z117 := Tryd.sizeOf64
  v117 := Tryd.zeroValue64
  t119 := Tryd.underlying88
  a119 := Tryd.isAgg88
  z119 := Tryd.sizeOf88
  t124 := Tryd.underlying67
  a124 := Tryd.isAgg67
  z124 := Tryd.sizeOf67
  v124 := Tryd.zeroValue67
  t138 := Tryd.underlying90
  a138 := Tryd.isAgg90
  z138 := Tryd.sizeOf90
  v138 := Tryd.zeroValue90
  t139 := Tryd.underlying91
  a139 := Tryd.isAgg91
  z139 := Tryd.sizeOf91
  v139 := Tryd.zeroValue91
  g3 := by kernel_rfl
  g4 := by kernel_rfl }
def Tryd.lays137_ren : Go.Shelf.Ren := ⟨fun | 137 => 14 | 217 => 17 | 266 => 27 | n => n, fun | 9 => 9 | 5 => 5 | 3 => 3 | n => n, fun | n => n⟩
theorem Tryd.lays137 : Go.Proofs.Lays.n137 Tryd.prog Tryd.lays137_ren := {
  mixed := by kernel_rfl
  f137 := Tryd.func14.trans (congrArg some (by kernel_rfl))
  f217 := Tryd.func17.trans (congrArg some (by kernel_rfl))
  f266 := Tryd.func27.trans (congrArg some (by kernel_rfl))
  t3 := Tryd.underlying3
  a3 := Tryd.isAgg3
  z3 := Tryd.sizeOf3
  v3 := Tryd.zeroValue3
  t5 := Tryd.underlying5
  a5 := Tryd.isAgg5
  z5 := Tryd.sizeOf5
  v5 := Tryd.zeroValue5
  t9 := Tryd.underlying9
  a9 := Tryd.isAgg9
  z9 := Tryd.sizeOf9
  v9 := Tryd.zeroValue9 }
open Go.RowKit in
theorem Tryd.strings_IndexByte (s : ByteArray) (c : Int) (w : World) :
    Calls Tryd.prog 14 #[.string s, .int .u8 c] w fun e w' => e = .returned (.int .i64 (Lib.indexByte s.data.toList c.toNat.toUInt8)) ∧ w' = w := Any.strings_IndexByte Tryd.lays137 s c w
def Tryd.lays321_ren : Go.Shelf.Ren := ⟨fun | 321 => 47 | n => n, fun | 5 => 5 | n => n, fun | n => n⟩
theorem Tryd.lays321 : Go.Proofs.Lays.n321 Tryd.prog Tryd.lays321_ren := {
  mixed := by kernel_rfl
  f321 := Tryd.func47.trans (congrArg some (by kernel_rfl))
  t5 := Tryd.underlying5
  a5 := Tryd.isAgg5
  z5 := Tryd.sizeOf5
  v5 := Tryd.zeroValue5 }
open Go.RowKit in
theorem Tryd.internal_strconv_lower (c : Int) (w : World) :
    Calls Tryd.prog 47 #[.int .u8 c] w fun e w' => e = .returned (.int .u8 (bits .or .u8 c 32)) ∧ w' = w := Any.internal_strconv_lower Tryd.lays321 c w
def Tryd.lays144_ren : Go.Shelf.Ren := ⟨fun | 144 => 25 | 143 => 31 | 219 => 42 | 217 => 17 | 225 => 53 | 224 => 54 | 267 => 55 | 266 => 27 | 314 => 62 | n => n, fun | 9 => 9 | 4 => 4 | 3 => 3 | 5 => 5 | 46 => 74 | 146 => 86 | 51 => 85 | n => n, fun | 1 => 2 | n => n⟩
theorem Tryd.lays144 : Go.Proofs.Lays.n144 Tryd.prog Tryd.lays144_ren := {
  mixed := by kernel_rfl
  f143 := Tryd.func31.trans (congrArg some (by kernel_rfl))
  f144 := Tryd.func25.trans (congrArg some (by kernel_rfl))
  f217 := Tryd.func17.trans (congrArg some (by kernel_rfl))
  f219 := Tryd.func42.trans (congrArg some (by kernel_rfl))
  f224 := Tryd.func54.trans (congrArg some (by kernel_rfl))
  f225 := Tryd.func53.trans (congrArg some (by kernel_rfl))
  f266 := Tryd.func27.trans (congrArg some (by kernel_rfl))
  f267 := Tryd.func55.trans (congrArg some (by kernel_rfl))
  f314 := Tryd.func62.trans (congrArg some (by kernel_rfl))
  t3 := Tryd.underlying3
  a3 := Tryd.isAgg3
  z3 := Tryd.sizeOf3
  v3 := Tryd.zeroValue3
  t4 := Tryd.underlying4
  a4 := Tryd.isAgg4
  z4 := Tryd.sizeOf4
  v4 := Tryd.zeroValue4
  t5 := Tryd.underlying5
  a5 := Tryd.isAgg5
  z5 := Tryd.sizeOf5
  v5 := Tryd.zeroValue5
  t9 := Tryd.underlying9
  a9 := Tryd.isAgg9
  z9 := Tryd.sizeOf9
  v9 := Tryd.zeroValue9
  t46 := Tryd.underlying74
  a46 := Tryd.isAgg74
  z46 := Tryd.sizeOf74
  v46 := Tryd.zeroValue74
  t51 := Tryd.underlying85
  a51 := Tryd.isAgg85
  z51 := Tryd.sizeOf85
  v51 := Tryd.zeroValue85
  t146 := Tryd.underlying86
  a146 := Tryd.isAgg86
  z146 := Tryd.sizeOf86
  v146 := Tryd.zeroValue86
  g1 := by kernel_rfl }
open Go.RowKit Go.Lib in
theorem Tryd.strings_Contains (s sub : ByteArray) (m : Int) (w : World) (hs : s.size < 4294967281) (hm : w.cell? ⟨2, 0, none⟩ = some (.int .i64 m)) :
    Calls Tryd.prog 25 #[.string s, .string sub] w fun e w' => e = .returned (.bool (Lib.contains s.data.toList sub.data.toList)) ∧ w' = w := Any.strings_Contains Tryd.lays144 s sub m w hs hm
def Tryd.lays99_ren : Go.Shelf.Ren := ⟨fun | 99 => 26 | 206 => 32 | n => n, fun | 9 => 9 | 4 => 4 | 3 => 3 | n => n, fun | n => n⟩
theorem Tryd.lays99 : Go.Proofs.Lays.n99 Tryd.prog Tryd.lays99_ren := {
  mixed := by kernel_rfl
  f99 := Tryd.func26.trans (congrArg some (by kernel_rfl))
  f206 := Tryd.func32.trans (congrArg some (by kernel_rfl))
  t3 := Tryd.underlying3
  a3 := Tryd.isAgg3
  z3 := Tryd.sizeOf3
  v3 := Tryd.zeroValue3
  t4 := Tryd.underlying4
  a4 := Tryd.isAgg4
  z4 := Tryd.sizeOf4
  v4 := Tryd.zeroValue4
  t9 := Tryd.underlying9
  a9 := Tryd.isAgg9
  z9 := Tryd.sizeOf9
  v9 := Tryd.zeroValue9 }
open Go.RowKit Go.Lib in
theorem Tryd.strings_HasPrefix (s p : ByteArray) (w : World) :
    Calls Tryd.prog 26 #[.string s, .string p] w fun e w' => e = .returned (.bool (Lib.hasPrefix s.data.toList p.data.toList)) ∧ w' = w := Any.strings_HasPrefix Tryd.lays99 s p w
end Go.Proofs
set_option linter.unusedVariables false
set_option linter.unusedSimpArgs false
set_option maxRecDepth 20000
namespace Go.Proofs.YtldmniappliepaaDoor
open Go Go.Av Go.RowKit
def tbScnB := And.intro (And.intro (And.intro @tf3 @tf4) (And.intro @tf5 (And.intro @tf9 @tf44))) (And.intro (And.intro @tf31 (And.intro @tf23 @tf29)) (And.intro @tf55 (And.intro @tf74 @tf57)))
structure GlobS (G : Nat → AV) : Prop where
  words : G 0 = .rp (scanWords.map AV.str)
  signs : G 1 = .rp (scanSigns.map AV.str)
  most : ∃ m, G 2 = .rp [.int .i64 m]
variable {G : Nat → AV}
theorem vrl_two {K : Ctx} {s t : List UInt8} {l : List Value} (h : VRl K [.str s, .str t] l) : l = [.string ⟨⟨s⟩⟩, .string ⟨⟨t⟩⟩] := by
  match l, h with
  | [a, b], ⟨h1, h2, _⟩ => rw [VR.str_iff] at h1 h2; rw [h1, h2]
theorem scontains_pure (hg : GlobS G) (s t : List UInt8) (hs : s.length < 4294967281) : Pure Tryd.prog G 25 [.str s, .str t] (.bool (Lib.contains s t)) := by
  obtain ⟨m, hm⟩ := hg.most
  refine Pure.of_calls (vals := [.string ⟨⟨s⟩⟩, .string ⟨⟨t⟩⟩]) (u := .bool (Lib.contains s t)) (by kernel_rfl) (fun K l h => vrl_two h) (fun K => .bool _) (fun K σ w hr => ?_)
  have hg := hr.glob 2
  rw [hm] at hg
  have hc : w.cell? ⟨2, 0, none⟩ = some (.int .i64 m) := by
    cases hg with
    | rp _ b off f h1 himm hv =>
      have h2 := hr.imm _ _ _ (himm 0 (by simp))
      have h3 := hv 0 (by simp)
      simp only [List.getElem_cons_zero, VR.int_iff] at h3
      rw [h3] at h2
      exact h2
  exact (Tryd.strings_Contains ⟨⟨s⟩⟩ ⟨⟨t⟩⟩ m w (by show s.length < _; exact hs) hc).mono fun e w' ⟨he, hw⟩ => ⟨he, by subst hw; exact Below.refl _ _⟩
variable (G)
theorem strim_pure (s t : List UInt8) (hs : s.length ≤ 4294967281) (ht : t.length < 4294967281) (ha : t.all (fun b => decide (b.toNat < 128)) = true) : Pure Tryd.prog G 29 [.str s, .str t] (.str (Lib.trimS s t)) := by
  refine Pure.of_calls (vals := [.string ⟨⟨s⟩⟩, .string ⟨⟨t⟩⟩]) (u := .string ⟨⟨Lib.trimS s t⟩⟩) (by kernel_rfl) (fun K l h => vrl_two h) (fun K => .str _) (fun K σ w hr => ?_)
  exact Any.strings_Trim_laid Tryd.lays160 (by kernel_rfl) ⟨⟨s⟩⟩ ⟨⟨t⟩⟩ w (by show s.length ≤ _; omega) (by show t.length < _; omega) (ascii_of_all ha)
theorem hasPrefix_pure (s t : List UInt8) : Pure Tryd.prog G 26 [.str s, .str t] (.bool (t.isPrefixOf s)) := by
  refine Pure.of_calls (vals := [.string ⟨⟨s⟩⟩, .string ⟨⟨t⟩⟩]) (u := .bool (t.isPrefixOf s)) (by kernel_rfl) (fun K l h => vrl_two h) (fun K => .bool _) (fun K σ w hr => ?_)
  exact (Tryd.strings_HasPrefix ⟨⟨s⟩⟩ ⟨⟨t⟩⟩ w).mono fun e w' ⟨he, hw⟩ => ⟨he, by subst hw; exact Below.refl _ _⟩
theorem indexByte_pure (s : List UInt8) (c : UInt8) : Pure Tryd.prog G 14 [.str s, .int .u8 c.toNat] (.int .i64 (Lib.indexByte s c)) := by
  refine Pure.of_calls (vals := [.string ⟨⟨s⟩⟩, .int .u8 c.toNat]) (u := .int .i64 (Lib.indexByte s c)) (by kernel_rfl) (fun K l h => ?_) (fun K => .int _ _) (fun K σ w hr => ?_)
  · match l, h with
    | [a, b], ⟨h1, h2, _⟩ => rw [VR.str_iff] at h1; rw [VR.int_iff] at h2; rw [h1, h2]
  · refine (Tryd.strings_IndexByte ⟨⟨s⟩⟩ c.toNat w).mono fun e w' ⟨he, hw⟩ => ⟨?_, by subst hw; exact Below.refl _ _⟩
    rw [he]
    simp
theorem indexByte_nl : ∀ s : List UInt8, Lib.indexByte s 10 = if (s.takeWhile notNL).length < s.length then ((s.takeWhile notNL).length : Int) else -1
  | [] => rfl
  | c :: s => by
    have ih := indexByte_nl s
    have hle := takeWhile_len (p := notNL) s
    unfold Lib.indexByte
    rw [ih]
    by_cases hc : c = 10
    · subst hc
      simp [notNL]
    · have h1 : (c == 10) = false := by simpa using hc
      have h2 : notNL c = true := by unfold notNL; rw [h1]; rfl
      rw [List.takeWhile_cons, if_pos h2, h1]
      simp only [Bool.false_eq_true, if_false, List.length_cons]
      generalize (s.takeWhile notNL).length = a at *
      generalize s.length = b at *
      by_cases hl : a < b
      · have h3 : ((a : Int) == -1) = false := by rw [beq_eq_false_iff_ne]; omega
        simp [hl, h3]
      · simp [hl]
def hexS : List UInt8 := [48, 49, 50, 51, 52, 53, 54, 55, 56, 57, 97, 98, 99, 100, 101, 102, 65, 66, 67, 68, 69, 70]
theorem u8_all {p : UInt8 → Bool} (h : ∀ n : Fin 256, p (UInt8.ofNat n.val) = true) (c : UInt8) : p c = true := by
  have := h ⟨c.toNat, c.toNat_lt⟩
  rwa [show UInt8.ofNat c.toNat = c from UInt8.ofNat_toNat] at this
theorem hexS_mem (c : UInt8) : hexS.contains c = hexB c := by
  have h := u8_all (p := fun c => hexS.contains c == hexB c) (by decide +kernel) c
  simpa using h
theorem trim_hex (h l : UInt8) : (decide (¬ Lib.trimS [h, l] hexS = [])) = !(hexB h && hexB l) := by
  have e : Lib.trimS [h, l] hexS = if hexB l then (if hexB h then [] else [h]) else (if hexB h then [l] else [h, l]) := by
    unfold Lib.trimS Lib.trimLeftS Lib.trimRightS
    simp only [hexS_mem]
    cases eh : hexB h <;> cases el : hexB l <;> simp [List.dropWhile, eh, el]
  rw [e]
  cases hexB h <;> cases hexB l <;> simp
theorem hex_lt (c : UInt8) (h : hexB c = true) : hexV c < 16 := by
  have h2 := u8_all (p := fun c => !hexB c || decide (hexV c < 16)) (by decide +kernel) c
  simpa [h] using h2
theorem slower_pure (c : UInt8) (h : hexB c = true) (hd : digitB c = false) : Pure Tryd.prog G 47 [.int .u8 c.toNat] (.int .u8 (hexV c + 87 : Nat)) := by
  have hb : bits .or .u8 c.toNat 32 = ((hexV c + 87 : Nat) : Int) := by
    have h2 := u8_all (p := fun c => !hexB c || digitB c || decide (bits .or .u8 c.toNat 32 = ((hexV c + 87 : Nat) : Int))) (by decide +kernel) c
    simpa [h, hd] using h2
  refine Pure.of_calls (vals := [.int .u8 c.toNat]) (u := .int .u8 (hexV c + 87 : Nat)) (by kernel_rfl) (fun K l h => ?_) (fun K => .int _ _) (fun K σ w hr => ?_)
  · match l, h with
    | [a], ⟨h1, _⟩ => rw [VR.int_iff] at h1; rw [h1]
  · refine (Tryd.internal_strconv_lower c.toNat w).mono fun e w' ⟨he, hw⟩ => ⟨?_, by subst hw; exact Below.refl _ _⟩
    rw [he, hb]
theorem hexV_digit {c : UInt8} (h : digitB c = true) : ((c.toNat : Int) - 48 = hexV c) ∧ (48 : Int) ≤ c.toNat ∧ (c.toNat : Int) ≤ 57 := by
  have h2 := h
  unfold digitB at h2
  simp only [Bool.and_eq_true, decide_eq_true_eq] at h2
  unfold hexV
  rw [if_pos h]; omega
def hexUp (h l : UInt8) (i : Nat) : Nat := if i = 0 then 0 else if i = 1 then hexV h else 16 * hexV h + hexV l
set_option maxHeartbeats 4000000 in
theorem iParse_pure (h l : UInt8) (hh : hexB h = true) (hl : hexB l = true) : Pure Tryd.prog G 40 [.str [h, l], .int .i64 16, .int .i64 8] (.tup [.int .u64 (16 * hexV h + hexV l : Nat), .raw .nilIface]) := by
  have b1 := hex_lt h hh
  have b2 := hex_lt l hl
  intro σ
  have hml : (2 ≤ maxLen) = True := eq_true (by unfold maxLen; omega)
  have w8 : IntKind.u64.wrap 8 = 8 := by decide
  have w1 : IntKind.u64.wrap (IntKind.u64.wrap (1 * 2 ^ min 8 IntKind.u64.bits) - 1) = 255 := by decide
  have w16 : IntKind.u64.wrap 16 = 16 := by decide
  have v16 : IntKind.u8.wrap 16 = 16 := by decide
  refine Tri.of_awp mixed Tryd.func40 rfl (by kernel_rfl) (by kernel_rfl) (by simp [Tryd.ntmps40]) Tryd.results40 ?_
  repeat' (first | refine xs ?_ ?_ <;> intros | ((first | refine xh ?_ | refine xi ?_); intro bx hbx; (try simp only [fb] at hbx)) | refine xj ?_ | ((with_reducible refine And.intro ?_ ?_); omega) | refine bo_buildSlice (d' := ⟨⟩) ?_ | refine xk (by kernel_rfl) ?_ | refine xf ?_ (by repeat' first | exact lr _ | assumption | refine ls ?_ ?_ | refine lt ?_ ?_ | simp only [*]; done | exact lf ‹_› (by simp only [*])) | refine finish_two ?_ (by repeat' first | exact lr _ | assumption | refine ls ?_ ?_ | refine lt ?_ ?_ | simp only [*]; done | exact lf ‹_› (by simp only [*])) | simp -dsimp only [↓bp, bq, br, seval, tbScnB, *])
  refine loop_keep mixed (fun n e => ∃ i : Nat, i ≤ 2 ∧ n = 2 - i ∧ e 101 = .int .i64 i ∧ e 13 = .int .u64 (hexUp h l i) ∧ e 12 = .bool false) 2
    ⟨0, by omega, by omega, by first | (simp -dsimp only [↓bp, bq, br, seval, tbScnB]; done) | (simp -dsimp only [↓bp, bq, br, seval, tbScnB]; try rfl), by first | (simp -dsimp only [↓bp, bq, br, seval, tbScnB]; done) | (simp -dsimp only [↓bp, bq, br, seval, tbScnB]; try rfl), by first | (simp -dsimp only [↓bp, bq, br, seval, tbScnB]; done) | (simp -dsimp only [↓bp, bq, br, seval, tbScnB]; try rfl)⟩ ?_
  rintro n v ⟨i, hi, rfl, h101, h13, h12⟩
  simp -dsimp only [↓bp, bq, br, seval, tbScnB] at h101 h13 h12
  by_cases hlt : (i : Int) < 2
  · have key : ∀ c : UInt8, hexB c = true → [h, l][i]? = some c → hexUp h l (i + 1) = 16 * hexUp h l i + hexV c ∧ hexUp h l i < 16 := fun c hc he => by
      match i, hlt with
      | 0, _ => simp only [List.getElem?_cons_zero, Option.some.injEq] at he; subst he; simp [hexUp]
      | 1, _ => simp only [List.getElem?_cons_succ, List.getElem?_cons_zero, Option.some.injEq] at he; subst he; simp [hexUp]; exact b1
    obtain ⟨c, hc⟩ : ∃ c, [h, l][i]? = some c := ⟨_, List.getElem?_eq_getElem (by simp; omega)⟩
    have hcx : hexB c = true := by
      have := List.mem_of_getElem? hc
      simp only [List.mem_cons, List.not_mem_nil, or_false] at this
      rcases this with rfl | rfl <;> assumption
    obtain ⟨k1, k2⟩ := key c hcx hc
    have b3 := hex_lt c hcx
    have hw : IntKind.i64.wrap ((i : Int) + 1) = ((i + 1 : Nat) : Int) := by rw [wrap_nat (by omega) (by omega)]; rfl
    have hlt' := eq_true hlt
    generalize hexUp h l i = p at *
    have hcm : ([h, l].map fun c => AV.int .u8 (c.toNat : Int))[i]? = some (.int .u8 c.toNat) := by rw [List.getElem?_map, hc]; rfl
    simp only [List.map_cons, List.map_nil] at hcm
    have hct := c.toNat_lt
    have e1 : IntKind.u64.wrap ((p : Int) * 16) = ((16 * p : Nat) : Int) := by
      have : IntKind.u64.wrap ((p : Int) * 16) = (p : Int) * 16 := by unfold IntKind.wrap; simp [IntKind.signed, IntKind.bits]; omega
      rw [this]; omega
    have e2 : IntKind.u64.wrap (hexV c : Int) = (hexV c : Int) := by unfold IntKind.wrap; simp [IntKind.signed, IntKind.bits]; omega
    have e3 : IntKind.u64.wrap (((16 * p : Nat) : Int) + (hexV c : Int)) = ((16 * p + hexV c : Nat) : Int) := by
      have : IntKind.u64.wrap (((16 * p : Nat) : Int) + (hexV c : Int)) = ((16 * p : Nat) : Int) + (hexV c : Int) := by unfold IntKind.wrap; simp [IntKind.signed, IntKind.bits]; omega
      rw [this]; omega
    have e4 : (((16 * p + hexV c : Nat) : Int) < ((16 * p : Nat) : Int)) = False := eq_false (by omega)
    have e5 : ((255 : Int) < ((16 * p + hexV c : Nat) : Int)) = False := eq_false (by omega)
    have e6 : ((1152921504606846976 : Int) ≤ (p : Int)) = False := eq_false (by omega)
    have e7 : ((16 : Int) ≤ (hexV c : Int)) = False := eq_false (by omega)
    have hn95 : ((c.toNat : Int) = 95) = False := eq_false fun e => by
      have : c = 95 := UInt8.toNat_inj.1 (show c.toNat = (95 : UInt8).toNat by rw [show (95 : UInt8).toNat = 95 from rfl]; omega)
      subst this; revert hcx; decide
    by_cases hd : digitB c = true
    · obtain ⟨d1, d2, d3⟩ := hexV_digit hd
      have d2 := eq_true d2
      have d3 := eq_true d3
      have d4 : IntKind.u8.wrap ((c.toNat : Int) - 48) = (hexV c : Int) := by rw [d1]; unfold IntKind.wrap; simp [IntKind.signed, IntKind.bits]; omega
      clear key hc b1 b2 hh hl hi hlt hcx hd d1 b3 hct k2
      repeat' (first | refine xs ?_ ?_ <;> intros | ((first | refine xh ?_ | refine xi ?_); intro bx hbx; (try simp only [fb] at hbx)) | refine xj ?_ | ((with_reducible refine And.intro ?_ ?_); omega) | refine bo_buildSlice (d' := ⟨⟩) ?_ | refine xk (by kernel_rfl) ?_ | refine xf ?_ (by repeat' first | exact lr _ | assumption | refine ls ?_ ?_ | refine lt ?_ ?_ | simp only [*]; done | exact lf ‹_› (by simp only [*])) | refine finish_two ?_ (by repeat' first | exact lr _ | assumption | refine ls ?_ ?_ | refine lt ?_ ?_ | simp only [*]; done | exact lf ‹_› (by simp only [*])) | simp -dsimp only [↓bp, bq, br, seval, tbScnB, *])
      all_goals (have hlt := of_eq_true hlt')
      all_goals exact ⟨2 - (i + 1), by omega, i + 1, by omega, rfl, rfl, by rw [k1]⟩
    · have hd : digitB c = false := by simpa using hd
      have hlow := slower_pure G c hcx hd
      have d0 : ((48 : Int) ≤ (c.toNat : Int) ∧ (c.toNat : Int) ≤ 57) = False := eq_false fun ⟨q1, q2⟩ => by
        unfold digitB at hd
        simp only [Bool.and_eq_false_iff, decide_eq_false_iff_not] at hd
        omega
      have hge : 10 ≤ hexV c := by
        have h2 := u8_all (p := fun c => !hexB c || digitB c || decide (10 ≤ hexV c)) (by decide +kernel) c
        simpa [hcx, hd] using h2
      have d1 : ((48 : Int) ≤ (c.toNat : Int)) = True := eq_true (by
        have h2 := u8_all (p := fun c => !hexB c || decide (48 ≤ c.toNat)) (by decide +kernel) c
        have : 48 ≤ c.toNat := by simpa [hcx] using h2
        omega)
      have d2 : ((c.toNat : Int) ≤ 57) = False := eq_false fun q => by rw [d1] at d0; simp only [true_and] at d0; exact (by rw [d0] at q; exact q)
      have d3 : ((97 : Int) ≤ ((hexV c + 87 : Nat) : Int)) = True := eq_true (by omega)
      have d4 : (((hexV c + 87 : Nat) : Int) ≤ 122) = True := eq_true (by omega)
      have d5 : IntKind.u8.wrap (((hexV c + 87 : Nat) : Int) - 97) = ((hexV c - 10 : Nat) : Int) := by
        have : ((hexV c + 87 : Nat) : Int) - 97 = ((hexV c - 10 : Nat) : Int) := by omega
        rw [this]; unfold IntKind.wrap; simp [IntKind.signed, IntKind.bits]; omega
      have d6 : IntKind.u8.wrap (((hexV c - 10 : Nat) : Int) + 10) = (hexV c : Int) := by
        have : ((hexV c - 10 : Nat) : Int) + 10 = (hexV c : Int) := by omega
        rw [this]; unfold IntKind.wrap; simp [IntKind.signed, IntKind.bits]; omega
      clear key hc b1 b2 hh hl hi hlt hcx hd d0 b3 hct hge k2
      repeat' (first | refine xs ?_ ?_ <;> intros | ((first | refine xh ?_ | refine xi ?_); intro bx hbx; (try simp only [fb] at hbx)) | refine Pure.use (hlow) ?_ | refine Pure.head (hlow) ?_ | refine xj ?_ | ((with_reducible refine And.intro ?_ ?_); omega) | refine bo_buildSlice (d' := ⟨⟩) ?_ | refine xk (by kernel_rfl) ?_ | refine xf ?_ (by repeat' first | exact lr _ | assumption | refine ls ?_ ?_ | refine lt ?_ ?_ | simp only [*]; done | exact lf ‹_› (by simp only [*])) | refine finish_two ?_ (by repeat' first | exact lr _ | assumption | refine ls ?_ ?_ | refine lt ?_ ?_ | simp only [*]; done | exact lf ‹_› (by simp only [*])) | simp -dsimp only [↓bp, bq, br, seval, tbScnB, *])
      all_goals (have hlt := of_eq_true hlt')
      all_goals exact ⟨2 - (i + 1), by omega, i + 1, by omega, rfl, rfl, by rw [k1]⟩
  · have : i = 2 := by omega
    subst this
    have hlt' := eq_false hlt
    have e1 : hexUp h l 2 = 16 * hexV h + hexV l := by simp [hexUp]
    rw [e1] at h13
    clear hlt hi
    repeat' (first | refine xs ?_ ?_ <;> intros | ((first | refine xh ?_ | refine xi ?_); intro bx hbx; (try simp only [fb] at hbx)) | refine xj ?_ | ((with_reducible refine And.intro ?_ ?_); omega) | refine bo_buildSlice (d' := ⟨⟩) ?_ | refine xk (by kernel_rfl) ?_ | refine xf ?_ (by repeat' first | exact lr _ | assumption | refine ls ?_ ?_ | refine lt ?_ ?_ | simp only [*]; done | exact lf ‹_› (by simp only [*])) | refine finish_two ?_ (by repeat' first | exact lr _ | assumption | refine ls ?_ ?_ | refine lt ?_ ?_ | simp only [*]; done | exact lf ‹_› (by simp only [*])) | simp -dsimp only [↓bp, bq, br, seval, tbScnB, *])
    all_goals rfl
theorem parse_pure (h l : UInt8) (hh : hexB h = true) (hl : hexB l = true) : Pure Tryd.prog G 30 [.str [h, l], .int .i64 16, .int .i64 8] (.tup [.int .u64 (16 * hexV h + hexV l : Nat), .raw .nilIface]) := by
  have hp := iParse_pure G h l hh hl
  intro σ
  refine Tri.of_awp mixed Tryd.func30 rfl (by kernel_rfl) (by kernel_rfl) (by simp [Tryd.ntmps30]) Tryd.results30 ?_
  repeat' (first | refine xs ?_ ?_ <;> intros | ((first | refine xh ?_ | refine xi ?_); intro bx hbx; (try simp only [fb] at hbx)) | refine Pure.use (hp) ?_ | refine Pure.head (hp) ?_ | refine xj ?_ | ((with_reducible refine And.intro ?_ ?_); omega) | refine bo_buildSlice (d' := ⟨⟩) ?_ | refine xk (by kernel_rfl) ?_ | refine xf ?_ (by repeat' first | exact lr _ | assumption | refine ls ?_ ?_ | refine lt ?_ ?_ | simp only [*]; done | exact lf ‹_› (by simp only [*])) | refine finish_two ?_ (by repeat' first | exact lr _ | assumption | refine ls ?_ ?_ | refine lt ?_ ?_ | simp only [*]; done | exact lf ‹_› (by simp only [*])) | simp -dsimp only [↓bp, bq, br, seval, tbScnB, *])
  all_goals rfl
end Go.Proofs.YtldmniappliepaaDoor
