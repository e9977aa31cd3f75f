/- What the library says of texts: prefixes, first places, trims; a number of two digits in base 16. -/
import Derived.Test.YtldmniappliepaaDoorX12
import Derived.Test.YtldmniappliepaaDoorX13
import Derived.Shelf.Strings.SlTrimAscii
set_option linter.unusedVariables false
set_option linter.unusedSimpArgs false
set_option maxRecDepth 20000
set_option linter.defProp false
namespace Go.Proofs.YtldmniappliepaaDoor
open Go Go.Av
section
open Go Go.Av Go.RowKit
def tbScnB := And.intro (And.intro (And.intro @tf3 @tf4) (And.intro @tf5 (And.intro @tf9 @tf44))) (And.intro (And.intro @tf31 (And.intro @tf23 @tf29)) (And.intro @tf55 (And.intro @tf74 @tf57)))
structure GlobS (G : Nat → AV) : Prop where
  words : G 0 = .rp (scanWords.map AV.str)
  signs : G 1 = .rp (scanSigns.map AV.str)
  most : ∃ m, G 2 = .rp [.int .i64 m]
variable {G : Nat → AV}
theorem vrl_two {K : Ctx} {s t : List UInt8} {l : List Value} (h : VRl K [.str s, .str t] l) : l = [.string ⟨⟨s⟩⟩, .string ⟨⟨t⟩⟩] := by
  match l, h with
  | [a, b], ⟨h1, h2, _⟩ => rw [VR.str_iff] at h1 h2; rw [h1, h2]
theorem scontains_pure (hg : GlobS G) (s t : List UInt8) (hs : s.length < 4294967281) : Pure Tryd.prog G 25 [.str s, .str t] (.bool (Lib.contains s t)) := by
  obtain ⟨m, hm⟩ := hg.most
  refine Pure.of_calls (vals := [.string ⟨⟨s⟩⟩, .string ⟨⟨t⟩⟩]) (u := .bool (Lib.contains s t)) (by kernel_rfl) (fun K l h => vrl_two h) (fun K => .bool _) (fun K σ w hr => ?_)
  have hg := hr.glob 2
  rw [hm] at hg
  have hc : w.cell? ⟨2, 0, none⟩ = some (.int .i64 m) := by
    cases hg with
    | rp _ b off f h1 himm hv =>
      have h2 := hr.imm _ _ _ (himm 0 (by simp))
      have h3 := hv 0 (by simp)
      simp only [List.getElem_cons_zero, VR.int_iff] at h3
      rw [h3] at h2
      exact h2
  exact (Tryd.strings_Contains ⟨⟨s⟩⟩ ⟨⟨t⟩⟩ m w (by show s.length < _; exact hs) hc).mono fun e w' ⟨he, hw⟩ => ⟨he, by subst hw; exact Below.refl _ _⟩
variable (G)
theorem strim_pure (s t : List UInt8) (hs : s.length ≤ 4294967281) (ht : t.length < 4294967281) (ha : t.all (fun b => decide (b.toNat < 128)) = true) : Pure Tryd.prog G 29 [.str s, .str t] (.str (Lib.trimS s t)) := by
  refine Pure.of_calls (vals := [.string ⟨⟨s⟩⟩, .string ⟨⟨t⟩⟩]) (u := .string ⟨⟨Lib.trimS s t⟩⟩) (by kernel_rfl) (fun K l h => vrl_two h) (fun K => .str _) (fun K σ w hr => ?_)
  exact Any.strings_Trim_laid Tryd.lays160 (by kernel_rfl) ⟨⟨s⟩⟩ ⟨⟨t⟩⟩ w (by show s.length ≤ _; omega) (by show t.length < _; omega) (ascii_of_all ha)
theorem hasPrefix_pure (s t : List UInt8) : Pure Tryd.prog G 26 [.str s, .str t] (.bool (t.isPrefixOf s)) := by
  refine Pure.of_calls (vals := [.string ⟨⟨s⟩⟩, .string ⟨⟨t⟩⟩]) (u := .bool (t.isPrefixOf s)) (by kernel_rfl) (fun K l h => vrl_two h) (fun K => .bool _) (fun K σ w hr => ?_)
  exact (Tryd.strings_HasPrefix ⟨⟨s⟩⟩ ⟨⟨t⟩⟩ w).mono fun e w' ⟨he, hw⟩ => ⟨he, by subst hw; exact Below.refl _ _⟩
theorem indexByte_pure (s : List UInt8) (c : UInt8) : Pure Tryd.prog G 14 [.str s, .int .u8 c.toNat] (.int .i64 (Lib.indexByte s c)) := by
  refine Pure.of_calls (vals := [.string ⟨⟨s⟩⟩, .int .u8 c.toNat]) (u := .int .i64 (Lib.indexByte s c)) (by kernel_rfl) (fun K l h => ?_) (fun K => .int _ _) (fun K σ w hr => ?_)
  · match l, h with
    | [a, b], ⟨h1, h2, _⟩ => rw [VR.str_iff] at h1; rw [VR.int_iff] at h2; rw [h1, h2]
  · refine (Tryd.strings_IndexByte ⟨⟨s⟩⟩ c.toNat w).mono fun e w' ⟨he, hw⟩ => ⟨?_, by subst hw; exact Below.refl _ _⟩
    rw [he]
    simp
theorem indexByte_nl : ∀ s : List UInt8, Lib.indexByte s 10 = if (s.takeWhile notNL).length < s.length then ((s.takeWhile notNL).length : Int) else -1
  | [] => rfl
  | c :: s => by
    have ih := indexByte_nl s
    have hle := takeWhile_len (p := notNL) s
    unfold Lib.indexByte
    rw [ih]
    by_cases hc : c = 10
    · subst hc
      simp [notNL]
    · have h1 : (c == 10) = false := by simpa using hc
      have h2 : notNL c = true := by unfold notNL; rw [h1]; rfl
      rw [List.takeWhile_cons, if_pos h2, h1]
      simp only [Bool.false_eq_true, if_false, List.length_cons]
      generalize (s.takeWhile notNL).length = a at *
      generalize s.length = b at *
      by_cases hl : a < b
      · have h3 : ((a : Int) == -1) = false := by rw [beq_eq_false_iff_ne]; omega
        simp [hl, h3]
      · simp [hl]
def hexS : List UInt8 := [48, 49, 50, 51, 52, 53, 54, 55, 56, 57, 97, 98, 99, 100, 101, 102, 65, 66, 67, 68, 69, 70]
theorem u8_all {p : UInt8 → Bool} (h : ∀ n : Fin 256, p (UInt8.ofNat n.val) = true) (c : UInt8) : p c = true := by
  have := h ⟨c.toNat, c.toNat_lt⟩
  rwa [show UInt8.ofNat c.toNat = c from UInt8.ofNat_toNat] at this
theorem hexS_mem (c : UInt8) : hexS.contains c = hexB c := by
  have h := u8_all (p := fun c => hexS.contains c == hexB c) (by decide +kernel) c
  simpa using h
theorem trim_hex (h l : UInt8) : (decide (¬ Lib.trimS [h, l] hexS = [])) = !(hexB h && hexB l) := by
  have e : Lib.trimS [h, l] hexS = if hexB l then (if hexB h then [] else [h]) else (if hexB h then [l] else [h, l]) := by
    unfold Lib.trimS Lib.trimLeftS Lib.trimRightS
    simp only [hexS_mem]
    cases eh : hexB h <;> cases el : hexB l <;> simp [List.dropWhile, eh, el]
  rw [e]
  cases hexB h <;> cases hexB l <;> simp
theorem hex_lt (c : UInt8) (h : hexB c = true) : hexV c < 16 := by
  have h2 := u8_all (p := fun c => !hexB c || decide (hexV c < 16)) (by decide +kernel) c
  simpa [h] using h2
theorem slower_pure (c : UInt8) (h : hexB c = true) (hd : digitB c = false) : Pure Tryd.prog G 47 [.int .u8 c.toNat] (.int .u8 (hexV c + 87 : Nat)) := by
  have hb : bits .or .u8 c.toNat 32 = ((hexV c + 87 : Nat) : Int) := by
    have h2 := u8_all (p := fun c => !hexB c || digitB c || decide (bits .or .u8 c.toNat 32 = ((hexV c + 87 : Nat) : Int))) (by decide +kernel) c
    simpa [h, hd] using h2
  refine Pure.of_calls (vals := [.int .u8 c.toNat]) (u := .int .u8 (hexV c + 87 : Nat)) (by kernel_rfl) (fun K l h => ?_) (fun K => .int _ _) (fun K σ w hr => ?_)
  · match l, h with
    | [a], ⟨h1, _⟩ => rw [VR.int_iff] at h1; rw [h1]
  · refine (Tryd.internal_strconv_lower c.toNat w).mono fun e w' ⟨he, hw⟩ => ⟨?_, by subst hw; exact Below.refl _ _⟩
    rw [he, hb]
theorem hexV_digit {c : UInt8} (h : digitB c = true) : ((c.toNat : Int) - 48 = hexV c) ∧ (48 : Int) ≤ c.toNat ∧ (c.toNat : Int) ≤ 57 := by
  have h2 := h
  unfold digitB at h2
  simp only [Bool.and_eq_true, decide_eq_true_eq] at h2
  unfold hexV
  rw [if_pos h]; omega
def hexUp (h l : UInt8) (i : Nat) : Nat := if i = 0 then 0 else if i = 1 then hexV h else 16 * hexV h + hexV l
set_option maxHeartbeats 4000000 in
theorem iParse_pure (h l : UInt8) (hh : hexB h = true) (hl : hexB l = true) : Pure Tryd.prog G 40 [.str [h, l], .int .i64 16, .int .i64 8] (.tup [.int .u64 (16 * hexV h + hexV l : Nat), .raw .nilIface]) := by
  have b1 := hex_lt h hh
  have b2 := hex_lt l hl
  intro σ
  have hml : (2 ≤ maxLen) = True := eq_true (by unfold maxLen; omega)
  have w8 : IntKind.u64.wrap 8 = 8 := by decide
  have w1 : IntKind.u64.wrap (IntKind.u64.wrap (1 * 2 ^ min 8 IntKind.u64.bits) - 1) = 255 := by decide
  have w16 : IntKind.u64.wrap 16 = 16 := by decide
  have v16 : IntKind.u8.wrap 16 = 16 := by decide
  refine Tri.of_awp mixed Tryd.func40 rfl (by kernel_rfl) (by kernel_rfl) (by simp [Tryd.ntmps40]) Tryd.results40 ?_
  repeat' (first | refine xs ?_ ?_ <;> intros | ((first | refine xh ?_ | refine xi ?_); intro bx hbx; (try simp only [fb] at hbx)) | refine xj ?_ | refine cv_plain ?_ | ((with_reducible refine And.intro ?_ ?_); omega) | refine bo_buildSlice (d' := ⟨⟩) ?_ | refine xk (by kernel_rfl) ?_ | refine xf ?_ (by repeat' first | exact lr _ | assumption | refine ls ?_ ?_ | refine lt ?_ ?_ | simp only [*]; done | simp only [fb, *, not_false_eq_true, and_self]; done | exact lf ‹_› (by simp only [*])) | refine finish_two ?_ (by repeat' first | exact lr _ | assumption | refine ls ?_ ?_ | refine lt ?_ ?_ | simp only [*]; done | simp only [fb, *, not_false_eq_true, and_self]; done | exact lf ‹_› (by simp only [*])) | simp -dsimp only [↓bp, bq, br, seval, tbScnB, *] | refine cv_any ?_)
  refine loop_keep mixed (fun n e => ∃ i : Nat, i ≤ 2 ∧ n = 2 - i ∧ e 101 = .int .i64 i ∧ e 13 = .int .u64 (hexUp h l i) ∧ e 12 = .bool false) 2
    ⟨0, by omega, by omega, by first | (simp -dsimp only [↓bp, bq, br, seval, tbScnB]; done) | (simp -dsimp only [↓bp, bq, br, seval, tbScnB]; try rfl), by first | (simp -dsimp only [↓bp, bq, br, seval, tbScnB]; done) | (simp -dsimp only [↓bp, bq, br, seval, tbScnB]; try rfl), by first | (simp -dsimp only [↓bp, bq, br, seval, tbScnB]; done) | (simp -dsimp only [↓bp, bq, br, seval, tbScnB]; try rfl)⟩ ?_
  rintro n v ⟨i, hi, rfl, h101, h13, h12⟩
  simp -dsimp only [↓bp, bq, br, seval, tbScnB] at h101 h13 h12
  by_cases hlt : (i : Int) < 2
  · have key : ∀ c : UInt8, hexB c = true → [h, l][i]? = some c → hexUp h l (i + 1) = 16 * hexUp h l i + hexV c ∧ hexUp h l i < 16 := fun c hc he => by
      match i, hlt with
      | 0, _ => simp only [List.getElem?_cons_zero, Option.some.injEq] at he; subst he; simp [hexUp]
      | 1, _ => simp only [List.getElem?_cons_succ, List.getElem?_cons_zero, Option.some.injEq] at he; subst he; simp [hexUp]; exact b1
    obtain ⟨c, hc⟩ : ∃ c, [h, l][i]? = some c := ⟨_, List.getElem?_eq_getElem (by simp; omega)⟩
    have hcx : hexB c = true := by
      have := List.mem_of_getElem? hc
      simp only [List.mem_cons, List.not_mem_nil, or_false] at this
      rcases this with rfl | rfl <;> assumption
    obtain ⟨k1, k2⟩ := key c hcx hc
    have b3 := hex_lt c hcx
    have hw : IntKind.i64.wrap ((i : Int) + 1) = ((i + 1 : Nat) : Int) := by rw [wrap_nat (by omega) (by omega)]; rfl
    have hlt' := eq_true hlt
    generalize hexUp h l i = p at *
    have hcm : ([h, l].map fun c => AV.int .u8 (c.toNat : Int))[i]? = some (.int .u8 c.toNat) := by rw [List.getElem?_map, hc]; rfl
    simp only [List.map_cons, List.map_nil] at hcm
    have hct := c.toNat_lt
    have e1 : IntKind.u64.wrap ((p : Int) * 16) = ((16 * p : Nat) : Int) := by
      have : IntKind.u64.wrap ((p : Int) * 16) = (p : Int) * 16 := by unfold IntKind.wrap; simp [IntKind.signed, IntKind.bits]; omega
      rw [this]; omega
    have e2 : IntKind.u64.wrap (hexV c : Int) = (hexV c : Int) := by unfold IntKind.wrap; simp [IntKind.signed, IntKind.bits]; omega
    have e3 : IntKind.u64.wrap (((16 * p : Nat) : Int) + (hexV c : Int)) = ((16 * p + hexV c : Nat) : Int) := by
      have : IntKind.u64.wrap (((16 * p : Nat) : Int) + (hexV c : Int)) = ((16 * p : Nat) : Int) + (hexV c : Int) := by unfold IntKind.wrap; simp [IntKind.signed, IntKind.bits]; omega
      rw [this]; omega
    have e4 : (((16 * p + hexV c : Nat) : Int) < ((16 * p : Nat) : Int)) = False := eq_false (by omega)
    have e5 : ((255 : Int) < ((16 * p + hexV c : Nat) : Int)) = False := eq_false (by omega)
    have e6 : ((1152921504606846976 : Int) ≤ (p : Int)) = False := eq_false (by omega)
    have e7 : ((16 : Int) ≤ (hexV c : Int)) = False := eq_false (by omega)
    have hn95 : ((c.toNat : Int) = 95) = False := eq_false fun e => by
      have : c = 95 := UInt8.toNat_inj.1 (show c.toNat = (95 : UInt8).toNat by rw [show (95 : UInt8).toNat = 95 from rfl]; omega)
      subst this; revert hcx; decide
    by_cases hd : digitB c = true
    · obtain ⟨d1, d2, d3⟩ := hexV_digit hd
      have d2 := eq_true d2
      have d3 := eq_true d3
      have d4 : IntKind.u8.wrap ((c.toNat : Int) - 48) = (hexV c : Int) := by rw [d1]; unfold IntKind.wrap; simp [IntKind.signed, IntKind.bits]; omega
      clear key hc b1 b2 hh hl hi hlt hcx hd d1 b3 hct k2
      repeat' (first | refine xs ?_ ?_ <;> intros | ((first | refine xh ?_ | refine xi ?_); intro bx hbx; (try simp only [fb] at hbx)) | refine xj ?_ | refine cv_plain ?_ | ((with_reducible refine And.intro ?_ ?_); omega) | refine bo_buildSlice (d' := ⟨⟩) ?_ | refine xk (by kernel_rfl) ?_ | refine xf ?_ (by repeat' first | exact lr _ | assumption | refine ls ?_ ?_ | refine lt ?_ ?_ | simp only [*]; done | simp only [fb, *, not_false_eq_true, and_self]; done | exact lf ‹_› (by simp only [*])) | refine finish_two ?_ (by repeat' first | exact lr _ | assumption | refine ls ?_ ?_ | refine lt ?_ ?_ | simp only [*]; done | simp only [fb, *, not_false_eq_true, and_self]; done | exact lf ‹_› (by simp only [*])) | simp -dsimp only [↓bp, bq, br, seval, tbScnB, *] | refine cv_any ?_)
      all_goals (have hlt := of_eq_true hlt')
      all_goals exact ⟨2 - (i + 1), by omega, i + 1, by omega, rfl, rfl, by rw [k1]⟩
    · have hd : digitB c = false := by simpa using hd
      have hlow := slower_pure G c hcx hd
      have d0 : ((48 : Int) ≤ (c.toNat : Int) ∧ (c.toNat : Int) ≤ 57) = False := eq_false fun ⟨q1, q2⟩ => by
        unfold digitB at hd
        simp only [Bool.and_eq_false_iff, decide_eq_false_iff_not] at hd
        omega
      have hge : 10 ≤ hexV c := by
        have h2 := u8_all (p := fun c => !hexB c || digitB c || decide (10 ≤ hexV c)) (by decide +kernel) c
        simpa [hcx, hd] using h2
      have d1 : ((48 : Int) ≤ (c.toNat : Int)) = True := eq_true (by
        have h2 := u8_all (p := fun c => !hexB c || decide (48 ≤ c.toNat)) (by decide +kernel) c
        have : 48 ≤ c.toNat := by simpa [hcx] using h2
        omega)
      have d2 : ((c.toNat : Int) ≤ 57) = False := eq_false fun q => by rw [d1] at d0; simp only [true_and] at d0; exact (by rw [d0] at q; exact q)
      have d3 : ((97 : Int) ≤ ((hexV c + 87 : Nat) : Int)) = True := eq_true (by omega)
      have d4 : (((hexV c + 87 : Nat) : Int) ≤ 122) = True := eq_true (by omega)
      have d5 : IntKind.u8.wrap (((hexV c + 87 : Nat) : Int) - 97) = ((hexV c - 10 : Nat) : Int) := by
        have : ((hexV c + 87 : Nat) : Int) - 97 = ((hexV c - 10 : Nat) : Int) := by omega
        rw [this]; unfold IntKind.wrap; simp [IntKind.signed, IntKind.bits]; omega
      have d6 : IntKind.u8.wrap (((hexV c - 10 : Nat) : Int) + 10) = (hexV c : Int) := by
        have : ((hexV c - 10 : Nat) : Int) + 10 = (hexV c : Int) := by omega
        rw [this]; unfold IntKind.wrap; simp [IntKind.signed, IntKind.bits]; omega
      clear key hc b1 b2 hh hl hi hlt hcx hd d0 b3 hct hge k2
      repeat' (first | refine xs ?_ ?_ <;> intros | ((first | refine xh ?_ | refine xi ?_); intro bx hbx; (try simp only [fb] at hbx)) | refine Pure.use (hlow) ?_ | refine Pure.head (hlow) ?_ | refine xj ?_ | refine cv_plain ?_ | ((with_reducible refine And.intro ?_ ?_); omega) | refine bo_buildSlice (d' := ⟨⟩) ?_ | refine xk (by kernel_rfl) ?_ | refine xf ?_ (by repeat' first | exact lr _ | assumption | refine ls ?_ ?_ | refine lt ?_ ?_ | simp only [*]; done | simp only [fb, *, not_false_eq_true, and_self]; done | exact lf ‹_› (by simp only [*])) | refine finish_two ?_ (by repeat' first | exact lr _ | assumption | refine ls ?_ ?_ | refine lt ?_ ?_ | simp only [*]; done | simp only [fb, *, not_false_eq_true, and_self]; done | exact lf ‹_› (by simp only [*])) | simp -dsimp only [↓bp, bq, br, seval, tbScnB, *] | refine cv_any ?_)
      all_goals (have hlt := of_eq_true hlt')
      all_goals exact ⟨2 - (i + 1), by omega, i + 1, by omega, rfl, rfl, by rw [k1]⟩
  · have : i = 2 := by omega
    subst this
    have hlt' := eq_false hlt
    have e1 : hexUp h l 2 = 16 * hexV h + hexV l := by simp [hexUp]
    rw [e1] at h13
    clear hlt hi
    repeat' (first | refine xs ?_ ?_ <;> intros | ((first | refine xh ?_ | refine xi ?_); intro bx hbx; (try simp only [fb] at hbx)) | refine xj ?_ | refine cv_plain ?_ | ((with_reducible refine And.intro ?_ ?_); omega) | refine bo_buildSlice (d' := ⟨⟩) ?_ | refine xk (by kernel_rfl) ?_ | refine xf ?_ (by repeat' first | exact lr _ | assumption | refine ls ?_ ?_ | refine lt ?_ ?_ | simp only [*]; done | simp only [fb, *, not_false_eq_true, and_self]; done | exact lf ‹_› (by simp only [*])) | refine finish_two ?_ (by repeat' first | exact lr _ | assumption | refine ls ?_ ?_ | refine lt ?_ ?_ | simp only [*]; done | simp only [fb, *, not_false_eq_true, and_self]; done | exact lf ‹_› (by simp only [*])) | simp -dsimp only [↓bp, bq, br, seval, tbScnB, *] | refine cv_any ?_)
    all_goals rfl
theorem parse_pure (h l : UInt8) (hh : hexB h = true) (hl : hexB l = true) : Pure Tryd.prog G 30 [.str [h, l], .int .i64 16, .int .i64 8] (.tup [.int .u64 (16 * hexV h + hexV l : Nat), .raw .nilIface]) := by
  have hp := iParse_pure G h l hh hl
  intro σ
  refine Tri.of_awp mixed Tryd.func30 rfl (by kernel_rfl) (by kernel_rfl) (by simp [Tryd.ntmps30]) Tryd.results30 ?_
  repeat' (first | refine xs ?_ ?_ <;> intros | ((first | refine xh ?_ | refine xi ?_); intro bx hbx; (try simp only [fb] at hbx)) | refine Pure.use (hp) ?_ | refine Pure.head (hp) ?_ | refine xj ?_ | refine cv_plain ?_ | ((with_reducible refine And.intro ?_ ?_); omega) | refine bo_buildSlice (d' := ⟨⟩) ?_ | refine xk (by kernel_rfl) ?_ | refine xf ?_ (by repeat' first | exact lr _ | assumption | refine ls ?_ ?_ | refine lt ?_ ?_ | simp only [*]; done | simp only [fb, *, not_false_eq_true, and_self]; done | exact lf ‹_› (by simp only [*])) | refine finish_two ?_ (by repeat' first | exact lr _ | assumption | refine ls ?_ ?_ | refine lt ?_ ?_ | simp only [*]; done | simp only [fb, *, not_false_eq_true, and_self]; done | exact lf ‹_› (by simp only [*])) | simp -dsimp only [↓bp, bq, br, seval, tbScnB, *] | refine cv_any ?_)
  all_goals rfl
end
set_option maxRecDepth 20000
section
def tbScnC := And.intro (And.intro @tf3 (And.intro @tf4 @tf5)) (And.intro (And.intro @tf9 @tf44) (And.intro @tf55 @tf57))
variable (G : Nat → AV)
theorem bytesA_snoc (t : List UInt8) (c : UInt8) : bytesA (t ++ [c]) = bytesA t ++ [byteA c] := by simp [bytesA]
theorem bytesOf_map : ∀ t : List UInt8, bytesOf (bytesA t) = some t
  | [] => rfl
  | c :: t => by
    have ih := bytesOf_map t
    have h := c.toNat_lt
    unfold bytesA at ih ⊢
    rw [List.map_cons]
    unfold bytesOf
    rw [ih]
    have e : Av.byteOf (byteA c) = some c := by
      show some (UInt8.ofNat (c.toNat : Int).toNat) = some c
      rw [Int.toNat_natCast, UInt8.ofNat_toNat]
    rw [e]
theorem finish_le2 {a b v : AV} {l : List AV} {σ σ' : AS} {d : Dum σ} {d' : Dum fun x s => Le x v ∧ s = σ'} (h2 : Le (AV.tup (a :: b :: l)) v) (h1 : σ'.le σ) : finishW (some (a :: b :: l)) σ (fun x s => Le x v ∧ s = σ') d d' := ⟨_, σ', rfl, h1, h2, rfl⟩
theorem buf_text {n : Nat} {σ0 σ : AS} {v : AV} {t : List UInt8} (h : Buf n σ0 σ v (bytesA t)) {K : AV → Prop} {d : Dum K} (hK : K (.str t)) : bo (aconvZ Tryd.prog σ 44 9 v) K d := by
  have hx := bytesOf_map t
  rcases h.isNil with ⟨h0, rfl⟩ | ⟨b, rfl⟩
  · have : t = [] := by simpa [bytesA] using h0
    subst this
    rw [aconvZ_nil]
    refine ⟨.str [], ?_, hK⟩
    simp [tf44, tf5, tf9, cvb_some, bytesOf]
  · rw [aconvZ_sl]
    refine ⟨.str t, ?_, hK⟩
    simp [tf44, tf5, tf9, cvb_some, hx]
def qText (o : Option (List UInt8 × Nat)) : List UInt8 := match o with | some p => p.1 | none => []
def qNum (o : Option (List UInt8 × Nat)) : Nat := match o with | some p => p.2 + 1 | none => 0
def qPre (t : List UInt8) (k : Nat) (o : Option (List UInt8 × Nat)) : Option (List UInt8 × Nat) := o.map fun p => (t ++ p.1, p.2 + k)
theorem qPre_map (t : List UInt8) (k : Nat) (c : UInt8) (m : Nat) (o : Option (List UInt8 × Nat)) : qPre t k (o.map fun p => (c :: p.1, p.2 + m)) = qPre (t ++ [c]) (k + m) o := by
  cases o with
  | none => rfl
  | some p => simp [qPre]; omega
theorem escB_iff (e : UInt8) : escB e = if (e.toNat : Int) = 110 then some 10 else if (e.toNat : Int) = 116 then some 9 else if (e.toNat : Int) = 92 ∨ (e.toNat : Int) = 39 ∨ (e.toNat : Int) = 34 then some e else none := by
  have key : ∀ k : UInt8, (e = k) ↔ (e.toNat : Int) = k.toNat := fun k => ⟨fun h => by rw [h], fun h => UInt8.toNat_inj.1 (by omega)⟩
  unfold escB
  simp only [key]
  rfl
set_option maxHeartbeats 4000000 in
theorem quoted_pure (q : UInt8) (r : List UInt8) (hq : q = 39 ∨ q = 34) (hr : r.length ≤ 1000000) : Pure Tryd.prog G 24 [.str (q :: r)] (.tup [.str (qText (qscan q r)), .int .i64 (qNum (qscan q r))]) := by
  refine Pure.of_le fun σ => ?_
  have h0 : (q :: r)[0]? = some q := rfl
  have hd1 : (q :: r).drop 1 = r := rfl
  have hsl : (q :: r).length = r.length + 1 := rfl
  generalize hs : q :: r = s at *
  have hl : s.length ≤ 1000001 := by omega
  have hl1 : 1 ≤ s.length := by omega
  clear hs hsl hr
  refine Tri.of_awp mixed Tryd.func24 rfl (by kernel_rfl) (by kernel_rfl) (by simp [Tryd.ntmps24]) Tryd.results24 ?_
  simp -dsimp only [↓bp, bq, br, seval, tbScnC]
  refine loop_intro (fun n e σ' => ∃ (i : Nat) (v : AV) (t : List UInt8), 1 ≤ i ∧ i ≤ s.length ∧ t.length < i ∧ n = s.length - i ∧ e 5 = .int .i64 i ∧ e 4 = v ∧ Buf 1 σ σ' v (bytesA t) ∧ qscan q r = qPre t (i - 1) (qscan q (s.drop i))) (s.length - 1)
    ⟨1, .nil, [], by omega, by omega, by simp, by omega, by simp -dsimp only [↓bp, bq, br, seval, tbScnC]; first | done | rfl, by simp -dsimp only [↓bp, bq, br, seval, tbScnC]; first | done | rfl, .nil (AS.le.refl σ), by rw [hd1]; cases qscan q r <;> simp [qPre]⟩ ?_
  rintro n e σ2 ⟨i, v, t, hi1, hi, hti, rfl, h5, h4, hB, hQ⟩
  simp -dsimp only [↓bp, bq, br, seval, tbScnC] at h5 h4
  have fin : ∀ n : Int, σ.le σ2 := fun _ => hB.le
  by_cases hlt : (i : Int) < s.length
  · obtain ⟨c, hc⟩ : ∃ c, s[i]? = some c := ⟨_, List.getElem?_eq_getElem (by omega)⟩
    have hw : IntKind.i64.wrap ((i : Int) + 1) = ((i + 1 : Nat) : Int) := by rw [wrap_nat (by omega) (by omega)]; rfl
    have hlt' := eq_true hlt
    rw [drop_get _ _ _ hc, qscan_cons] at hQ
    by_cases c1 : c = q
    · subst c1
      rw [if_pos rfl] at hQ
      rw [hQ]
      have hle := hB.le
      simp only [qPre, Option.map_some, qText, qNum, List.append_nil]
      have e1 : ((1 + (i - 1) + 1 : Nat) : Int) = ((i + 1 : Nat) : Int) := by omega
      rw [e1]
      have hc2 := hc
      clear hQ hlt
      repeat' (first | refine xs ?_ ?_ <;> intros | ((first | refine xh ?_ | refine xi ?_); intro bx hbx; (try simp only [fb] at hbx)) | (refine buf_text hB ?_) | refine xj ?_ | refine cv_plain ?_ | ((with_reducible refine And.intro ?_ ?_); omega) | refine bo_buildSlice (d' := ⟨⟩) ?_ | refine xk (by kernel_rfl) ?_ | refine xf ?_ (by repeat' first | exact lr _ | assumption | refine ls ?_ ?_ | refine lt ?_ ?_ | simp only [*]; done | simp only [fb, *, not_false_eq_true, and_self]; done | exact lf ‹_› (by simp only [*])) | refine finish_two ?_ (by repeat' first | exact lr _ | assumption | refine ls ?_ ?_ | refine lt ?_ ?_ | simp only [*]; done | simp only [fb, *, not_false_eq_true, and_self]; done | exact lf ‹_› (by simp only [*])) | simp -dsimp only [↓bp, bq, br, seval, tbScnC, *] | refine cv_any ?_)
      all_goals exact finish_le2 (Le.refl _) hle
    rw [if_neg c1] at hQ
    have n1 : ((c.toNat : Int) = q.toNat) = False := eq_false fun h => c1 (UInt8.toNat_inj.1 (by omega))
    by_cases c2 : c.toNat < 32
    · rw [if_pos c2] at hQ
      have n2 : ((c.toNat : Int) < 32) = True := eq_true (by omega)
      rw [hQ]
      have hle := hB.le
      clear hQ hlt c1 hB
      repeat' (first | refine xs ?_ ?_ <;> intros | ((first | refine xh ?_ | refine xi ?_); intro bx hbx; (try simp only [fb] at hbx)) | refine xj ?_ | refine cv_plain ?_ | ((with_reducible refine And.intro ?_ ?_); omega) | refine bo_buildSlice (d' := ⟨⟩) ?_ | refine xk (by kernel_rfl) ?_ | refine xf ?_ (by repeat' first | exact lr _ | assumption | refine ls ?_ ?_ | refine lt ?_ ?_ | simp only [*]; done | simp only [fb, *, not_false_eq_true, and_self]; done | exact lf ‹_› (by simp only [*])) | refine finish_two ?_ (by repeat' first | exact lr _ | assumption | refine ls ?_ ?_ | refine lt ?_ ?_ | simp only [*]; done | simp only [fb, *, not_false_eq_true, and_self]; done | exact lf ‹_› (by simp only [*])) | simp -dsimp only [↓bp, bq, br, seval, tbScnC, *] | refine cv_any ?_)
      all_goals exact finish_le2 (Le.refl _) hle
    rw [if_neg c2] at hQ
    have n2 : ((c.toNat : Int) < 32) = False := eq_false (by omega)
    by_cases c3 : c = 92
    · rw [if_pos c3] at hQ
      have n3 : ((c.toNat : Int) = 92) = True := eq_true (by rw [c3]; rfl)
      by_cases hlt2 : i + 1 < s.length
      · obtain ⟨e1, he1⟩ : ∃ e1, s[i + 1]? = some e1 := ⟨_, List.getElem?_eq_getElem hlt2⟩
        rw [drop_get _ _ _ he1] at hQ
        simp only [escB_iff] at hQ
        have m1 : (((i + 1 : Nat) : Int) = s.length) = False := eq_false (by omega)
        have hw2 : IntKind.i64.wrap (((i + 1 : Nat) : Int) + 1) = ((i + 2 : Nat) : Int) := by rw [wrap_nat (by omega) (by omega)]; rfl
        clear hlt c1 c2 c3
        by_cases k1 : (e1.toNat : Int) = 110
        · rw [if_pos k1] at hQ
          simp only [qPre_map] at hQ
          rw [show i - 1 + 2 = i + 2 - 1 by omega] at hQ
          have k1' := eq_true k1
          clear k1
          repeat' (first | refine xs ?_ ?_ <;> intros | ((first | refine xh ?_ | refine xi ?_); intro bx hbx; (try simp only [fb] at hbx)) | (refine build_one tfB (a := .int .u8 10) rfl rfl (by omega) ?_) | (refine app_buf (ys := [.int .u8 10]) hB tfB (asrc_sl tfBE) (fun a ha => by simp at ha; subst ha; rfl) (by rw [bytesA_len]; simp only [List.length_cons, List.length_nil]; omega) (fun v3 σ3 hB4 hx4 => ?_)) | refine xj ?_ | refine cv_plain ?_ | ((with_reducible refine And.intro ?_ ?_); omega) | refine bo_buildSlice (d' := ⟨⟩) ?_ | refine xk (by kernel_rfl) ?_ | refine xf ?_ (by repeat' first | exact lr _ | assumption | refine ls ?_ ?_ | refine lt ?_ ?_ | simp only [*]; done | simp only [fb, *, not_false_eq_true, and_self]; done | exact lf ‹_› (by simp only [*])) | refine finish_two ?_ (by repeat' first | exact lr _ | assumption | refine ls ?_ ?_ | refine lt ?_ ?_ | simp only [*]; done | simp only [fb, *, not_false_eq_true, and_self]; done | exact lf ‹_› (by simp only [*])) | simp -dsimp only [↓bp, bq, br, seval, tbScnC, *] | refine cv_any ?_)
          all_goals exact ⟨s.length - (i + 2), by omega, i + 2, v3, t ++ [10], by omega, by omega, by rw [List.length_append, List.length_singleton]; omega, by omega, rfl, rfl, by rw [bytesA_snoc]; exact hB4, rfl⟩
        rw [if_neg k1] at hQ
        have k1' := eq_false k1
        clear k1
        by_cases k2 : (e1.toNat : Int) = 116
        · rw [if_pos k2] at hQ
          simp only [qPre_map] at hQ
          rw [show i - 1 + 2 = i + 2 - 1 by omega] at hQ
          have k2' := eq_true k2
          clear k2
          repeat' (first | refine xs ?_ ?_ <;> intros | ((first | refine xh ?_ | refine xi ?_); intro bx hbx; (try simp only [fb] at hbx)) | (refine build_one tfB (a := .int .u8 9) rfl rfl (by omega) ?_) | (refine app_buf (ys := [.int .u8 9]) hB tfB (asrc_sl tfBE) (fun a ha => by simp at ha; subst ha; rfl) (by rw [bytesA_len]; simp only [List.length_cons, List.length_nil]; omega) (fun v3 σ3 hB4 hx4 => ?_)) | refine xj ?_ | refine cv_plain ?_ | ((with_reducible refine And.intro ?_ ?_); omega) | refine bo_buildSlice (d' := ⟨⟩) ?_ | refine xk (by kernel_rfl) ?_ | refine xf ?_ (by repeat' first | exact lr _ | assumption | refine ls ?_ ?_ | refine lt ?_ ?_ | simp only [*]; done | simp only [fb, *, not_false_eq_true, and_self]; done | exact lf ‹_› (by simp only [*])) | refine finish_two ?_ (by repeat' first | exact lr _ | assumption | refine ls ?_ ?_ | refine lt ?_ ?_ | simp only [*]; done | simp only [fb, *, not_false_eq_true, and_self]; done | exact lf ‹_› (by simp only [*])) | simp -dsimp only [↓bp, bq, br, seval, tbScnC, *] | refine cv_any ?_)
          all_goals exact ⟨s.length - (i + 2), by omega, i + 2, v3, t ++ [9], by omega, by omega, by rw [List.length_append, List.length_singleton]; omega, by omega, rfl, rfl, by rw [bytesA_snoc]; exact hB4, rfl⟩
        rw [if_neg k2] at hQ
        have k2' := eq_false k2
        clear k2
        by_cases k3 : (e1.toNat : Int) = 92 ∨ (e1.toNat : Int) = 39 ∨ (e1.toNat : Int) = 34
        · rw [if_pos k3] at hQ
          simp only [qPre_map] at hQ
          rw [show i - 1 + 2 = i + 2 - 1 by omega] at hQ
          rcases k3 with k3 | k3 | k3
          · have k3' := eq_true k3
            clear k3
            repeat' (first | refine xs ?_ ?_ <;> intros | ((first | refine xh ?_ | refine xi ?_); intro bx hbx; (try simp only [fb] at hbx)) | (refine build_one tfB (a := byteA e1) rfl rfl (by omega) ?_) | (refine app_buf (ys := [byteA e1]) hB tfB (asrc_sl tfBE) (fun a ha => by simp at ha; subst ha; rfl) (by rw [bytesA_len]; simp only [List.length_cons, List.length_nil]; omega) (fun v3 σ3 hB4 hx4 => ?_)) | refine xj ?_ | refine cv_plain ?_ | ((with_reducible refine And.intro ?_ ?_); omega) | refine bo_buildSlice (d' := ⟨⟩) ?_ | refine xk (by kernel_rfl) ?_ | refine xf ?_ (by repeat' first | exact lr _ | assumption | refine ls ?_ ?_ | refine lt ?_ ?_ | simp only [*]; done | simp only [fb, *, not_false_eq_true, and_self]; done | exact lf ‹_› (by simp only [*])) | refine finish_two ?_ (by repeat' first | exact lr _ | assumption | refine ls ?_ ?_ | refine lt ?_ ?_ | simp only [*]; done | simp only [fb, *, not_false_eq_true, and_self]; done | exact lf ‹_› (by simp only [*])) | simp -dsimp only [↓bp, bq, br, seval, tbScnC, *] | refine cv_any ?_)
            all_goals exact ⟨s.length - (i + 2), by omega, i + 2, v3, t ++ [e1], by omega, by omega, by rw [List.length_append, List.length_singleton]; omega, by omega, rfl, rfl, by rw [bytesA_snoc]; exact hB4, rfl⟩
          · have k3' := eq_false (show ¬ (e1.toNat : Int) = 92 by omega)
            have k4' := eq_true k3
            clear k3
            repeat' (first | refine xs ?_ ?_ <;> intros | ((first | refine xh ?_ | refine xi ?_); intro bx hbx; (try simp only [fb] at hbx)) | (refine build_one tfB (a := byteA e1) rfl rfl (by omega) ?_) | (refine app_buf (ys := [byteA e1]) hB tfB (asrc_sl tfBE) (fun a ha => by simp at ha; subst ha; rfl) (by rw [bytesA_len]; simp only [List.length_cons, List.length_nil]; omega) (fun v3 σ3 hB4 hx4 => ?_)) | refine xj ?_ | refine cv_plain ?_ | ((with_reducible refine And.intro ?_ ?_); omega) | refine bo_buildSlice (d' := ⟨⟩) ?_ | refine xk (by kernel_rfl) ?_ | refine xf ?_ (by repeat' first | exact lr _ | assumption | refine ls ?_ ?_ | refine lt ?_ ?_ | simp only [*]; done | simp only [fb, *, not_false_eq_true, and_self]; done | exact lf ‹_› (by simp only [*])) | refine finish_two ?_ (by repeat' first | exact lr _ | assumption | refine ls ?_ ?_ | refine lt ?_ ?_ | simp only [*]; done | simp only [fb, *, not_false_eq_true, and_self]; done | exact lf ‹_› (by simp only [*])) | simp -dsimp only [↓bp, bq, br, seval, tbScnC, *] | refine cv_any ?_)
            all_goals exact ⟨s.length - (i + 2), by omega, i + 2, v3, t ++ [e1], by omega, by omega, by rw [List.length_append, List.length_singleton]; omega, by omega, rfl, rfl, by rw [bytesA_snoc]; exact hB4, rfl⟩
          · have k3' := eq_false (show ¬ (e1.toNat : Int) = 92 by omega)
            have k4' := eq_false (show ¬ (e1.toNat : Int) = 39 by omega)
            have k5' := eq_true k3
            clear k3
            repeat' (first | refine xs ?_ ?_ <;> intros | ((first | refine xh ?_ | refine xi ?_); intro bx hbx; (try simp only [fb] at hbx)) | (refine build_one tfB (a := byteA e1) rfl rfl (by omega) ?_) | (refine app_buf (ys := [byteA e1]) hB tfB (asrc_sl tfBE) (fun a ha => by simp at ha; subst ha; rfl) (by rw [bytesA_len]; simp only [List.length_cons, List.length_nil]; omega) (fun v3 σ3 hB4 hx4 => ?_)) | refine xj ?_ | refine cv_plain ?_ | ((with_reducible refine And.intro ?_ ?_); omega) | refine bo_buildSlice (d' := ⟨⟩) ?_ | refine xk (by kernel_rfl) ?_ | refine xf ?_ (by repeat' first | exact lr _ | assumption | refine ls ?_ ?_ | refine lt ?_ ?_ | simp only [*]; done | simp only [fb, *, not_false_eq_true, and_self]; done | exact lf ‹_› (by simp only [*])) | refine finish_two ?_ (by repeat' first | exact lr _ | assumption | refine ls ?_ ?_ | refine lt ?_ ?_ | simp only [*]; done | simp only [fb, *, not_false_eq_true, and_self]; done | exact lf ‹_› (by simp only [*])) | simp -dsimp only [↓bp, bq, br, seval, tbScnC, *] | refine cv_any ?_)
            all_goals exact ⟨s.length - (i + 2), by omega, i + 2, v3, t ++ [e1], by omega, by omega, by rw [List.length_append, List.length_singleton]; omega, by omega, rfl, rfl, by rw [bytesA_snoc]; exact hB4, rfl⟩
        rw [if_neg k3] at hQ
        have k3' := eq_false (show ¬ (e1.toNat : Int) = 92 by omega)
        have k4' := eq_false (show ¬ (e1.toNat : Int) = 39 by omega)
        have k5' := eq_false (show ¬ (e1.toNat : Int) = 34 by omega)
        clear k3
        by_cases k6 : e1 = 120
        · rw [if_pos k6] at hQ
          have k6' : ((e1.toNat : Int) = 120) = True := eq_true (by rw [k6]; rfl)
          have hw3 : IntKind.i64.wrap (((i + 1 : Nat) : Int) + 2) = ((i + 3 : Nat) : Int) := by rw [wrap_nat (by omega) (by omega)]; omega
          have hw4 : IntKind.i64.wrap (((i + 1 : Nat) : Int) + 3) = ((i + 4 : Nat) : Int) := by rw [wrap_nat (by omega) (by omega)]; omega
          have hw5 : IntKind.i64.wrap (((i + 3 : Nat) : Int) + 1) = ((i + 4 : Nat) : Int) := by rw [wrap_nat (by omega) (by omega)]; omega
          by_cases hl3 : i + 3 < s.length
          · have m3 : ((s.length : Int) ≤ ((i + 3 : Nat) : Int)) = False := eq_false (by omega)
            obtain ⟨h, hh⟩ : ∃ h, s[i + 2]? = some h := ⟨_, List.getElem?_eq_getElem (by omega)⟩
            obtain ⟨l, hhl⟩ : ∃ l, s[i + 3]? = some l := ⟨_, List.getElem?_eq_getElem (by omega)⟩
            have hsl : (s.take (i + 4)).drop (i + 2) = [h, l] := by
              rw [take_succ_get s (i + 3) l hhl, take_succ_get s (i + 2) h hh, List.append_assoc, List.drop_append_of_le_length (by rw [List.length_take]; omega), List.drop_eq_nil_of_le (by rw [List.length_take]; omega)]
              rfl
            have ht := strim_pure G [h, l] hexS (by simp) (by decide) (by decide)
            have hT := trim_hex h l
            rw [drop_get _ _ _ hh, drop_get _ _ _ hhl] at hQ
            simp only at hQ
            generalize Lib.trimS [h, l] hexS = T at *
            unfold hexS at ht
            have s1 : (i + 2 ≤ i + 4) = True := eq_true (by omega)
            have s2 : (i + 4 ≤ s.length) = True := eq_true (by omega)
            by_cases hx : (hexB h && hexB l) = true
            · rw [hx] at hT
              have hT' : (T = []) = True := by simpa using hT
              have hx2 := hx
              simp only [Bool.and_eq_true] at hx2
              rw [if_pos hx] at hQ
              simp only [qPre_map] at hQ
              rw [show i - 1 + 4 = i + 4 - 1 by omega] at hQ
              have hp := parse_pure G h l hx2.1 hx2.2
              have hb1 := hex_lt h hx2.1
              have hb2 := hex_lt l hx2.2
              have hv : IntKind.u8.wrap ((16 * hexV h + hexV l : Nat) : Int) = ((UInt8.ofNat (16 * hexV h + hexV l)).toNat : Int) := by
                rw [UInt8.toNat_ofNat_of_lt' (by show _ < 256; omega)]
                unfold IntKind.wrap; simp [IntKind.signed, IntKind.bits]; omega
              generalize UInt8.ofNat (16 * hexV h + hexV l) = x at *
              clear hT hx hx2 hb1 hb2 hlt2 hh hhl k6
              repeat' (first | refine xs ?_ ?_ <;> intros | ((first | refine xh ?_ | refine xi ?_); intro bx hbx; (try simp only [fb] at hbx)) | refine Pure.use (ht) ?_ | refine Pure.head (ht) ?_ | refine Pure.use (hp) ?_ | refine Pure.head (hp) ?_ | (refine build_one tfB (a := byteA x) rfl rfl (by omega) ?_) | (refine app_buf (ys := [byteA x]) hB tfB (asrc_sl tfBE) (fun a ha => by simp at ha; subst ha; rfl) (by rw [bytesA_len]; simp only [List.length_cons, List.length_nil]; omega) (fun v3 σ3 hB4 hx4 => ?_)) | refine xj ?_ | refine cv_plain ?_ | ((with_reducible refine And.intro ?_ ?_); omega) | refine bo_buildSlice (d' := ⟨⟩) ?_ | refine xk (by kernel_rfl) ?_ | refine xf ?_ (by repeat' first | exact lr _ | assumption | refine ls ?_ ?_ | refine lt ?_ ?_ | simp only [*]; done | simp only [fb, *, not_false_eq_true, and_self]; done | exact lf ‹_› (by simp only [*])) | refine finish_two ?_ (by repeat' first | exact lr _ | assumption | refine ls ?_ ?_ | refine lt ?_ ?_ | simp only [*]; done | simp only [fb, *, not_false_eq_true, and_self]; done | exact lf ‹_› (by simp only [*])) | simp -dsimp only [↓bp, bq, br, seval, tbScnC, *] | refine cv_any ?_)
              all_goals exact ⟨s.length - (i + 4), by omega, i + 4, v3, t ++ [x], by omega, by omega, by rw [List.length_append, List.length_singleton]; omega, by omega, rfl, rfl, by rw [bytesA_snoc]; exact hB4, rfl⟩
            · have hx : (hexB h && hexB l) = false := by simpa using hx
              rw [hx] at hT hQ
              have hT' : (T = []) = False := by simpa using hT
              simp only [Bool.false_eq_true, if_false] at hQ
              rw [hQ]
              have hle := hB.le
              clear hQ hT hx hlt2 hh hhl hB
              repeat' (first | refine xs ?_ ?_ <;> intros | ((first | refine xh ?_ | refine xi ?_); intro bx hbx; (try simp only [fb] at hbx)) | refine Pure.use (ht) ?_ | refine Pure.head (ht) ?_ | refine xj ?_ | refine cv_plain ?_ | ((with_reducible refine And.intro ?_ ?_); omega) | refine bo_buildSlice (d' := ⟨⟩) ?_ | refine xk (by kernel_rfl) ?_ | refine xf ?_ (by repeat' first | exact lr _ | assumption | refine ls ?_ ?_ | refine lt ?_ ?_ | simp only [*]; done | simp only [fb, *, not_false_eq_true, and_self]; done | exact lf ‹_› (by simp only [*])) | refine finish_two ?_ (by repeat' first | exact lr _ | assumption | refine ls ?_ ?_ | refine lt ?_ ?_ | simp only [*]; done | simp only [fb, *, not_false_eq_true, and_self]; done | exact lf ‹_› (by simp only [*])) | simp -dsimp only [↓bp, bq, br, seval, tbScnC, *] | refine cv_any ?_)
              all_goals exact finish_le2 (Le.refl _) hle
          · have m3 : ((s.length : Int) ≤ ((i + 3 : Nat) : Int)) = True := eq_true (by omega)
            have hQ2 : qscan q r = none := by
              rw [hQ]
              have : (s.drop (i + 2)).length ≤ 1 := by rw [List.length_drop]; omega
              match s.drop (i + 2), this with
              | [], _ => rfl
              | [_], _ => rfl
            rw [hQ2]
            have hle := hB.le
            clear hQ hQ2 hlt2 hB
            repeat' (first | refine xs ?_ ?_ <;> intros | ((first | refine xh ?_ | refine xi ?_); intro bx hbx; (try simp only [fb] at hbx)) | refine xj ?_ | refine cv_plain ?_ | ((with_reducible refine And.intro ?_ ?_); omega) | refine bo_buildSlice (d' := ⟨⟩) ?_ | refine xk (by kernel_rfl) ?_ | refine xf ?_ (by repeat' first | exact lr _ | assumption | refine ls ?_ ?_ | refine lt ?_ ?_ | simp only [*]; done | simp only [fb, *, not_false_eq_true, and_self]; done | exact lf ‹_› (by simp only [*])) | refine finish_two ?_ (by repeat' first | exact lr _ | assumption | refine ls ?_ ?_ | refine lt ?_ ?_ | simp only [*]; done | simp only [fb, *, not_false_eq_true, and_self]; done | exact lf ‹_› (by simp only [*])) | simp -dsimp only [↓bp, bq, br, seval, tbScnC, *] | refine cv_any ?_)
            all_goals exact finish_le2 (Le.refl _) hle
        · rw [if_neg k6] at hQ
          have k6' : ((e1.toNat : Int) = 120) = False := eq_false fun h => k6 (UInt8.toNat_inj.1 (show e1.toNat = (120 : UInt8).toNat by rw [show (120 : UInt8).toNat = 120 from rfl]; omega))
          rw [hQ]
          have hle := hB.le
          clear hQ hlt2 hB k6
          repeat' (first | refine xs ?_ ?_ <;> intros | ((first | refine xh ?_ | refine xi ?_); intro bx hbx; (try simp only [fb] at hbx)) | refine xj ?_ | refine cv_plain ?_ | ((with_reducible refine And.intro ?_ ?_); omega) | refine bo_buildSlice (d' := ⟨⟩) ?_ | refine xk (by kernel_rfl) ?_ | refine xf ?_ (by repeat' first | exact lr _ | assumption | refine ls ?_ ?_ | refine lt ?_ ?_ | simp only [*]; done | simp only [fb, *, not_false_eq_true, and_self]; done | exact lf ‹_› (by simp only [*])) | refine finish_two ?_ (by repeat' first | exact lr _ | assumption | refine ls ?_ ?_ | refine lt ?_ ?_ | simp only [*]; done | simp only [fb, *, not_false_eq_true, and_self]; done | exact lf ‹_› (by simp only [*])) | simp -dsimp only [↓bp, bq, br, seval, tbScnC, *] | refine cv_any ?_)
          all_goals exact finish_le2 (Le.refl _) hle
      · have m1 : (((i + 1 : Nat) : Int) = s.length) = True := eq_true (by omega)
        rw [List.drop_eq_nil_of_le (by omega)] at hQ
        simp only at hQ
        rw [hQ]
        have hle := hB.le
        clear hQ hlt hlt2 hB c1 c2 c3
        repeat' (first | refine xs ?_ ?_ <;> intros | ((first | refine xh ?_ | refine xi ?_); intro bx hbx; (try simp only [fb] at hbx)) | refine xj ?_ | refine cv_plain ?_ | ((with_reducible refine And.intro ?_ ?_); omega) | refine bo_buildSlice (d' := ⟨⟩) ?_ | refine xk (by kernel_rfl) ?_ | refine xf ?_ (by repeat' first | exact lr _ | assumption | refine ls ?_ ?_ | refine lt ?_ ?_ | simp only [*]; done | simp only [fb, *, not_false_eq_true, and_self]; done | exact lf ‹_› (by simp only [*])) | refine finish_two ?_ (by repeat' first | exact lr _ | assumption | refine ls ?_ ?_ | refine lt ?_ ?_ | simp only [*]; done | simp only [fb, *, not_false_eq_true, and_self]; done | exact lf ‹_› (by simp only [*])) | simp -dsimp only [↓bp, bq, br, seval, tbScnC, *] | refine cv_any ?_)
        all_goals exact finish_le2 (Le.refl _) hle
    · rw [if_neg c3] at hQ
      have n3 : ((c.toNat : Int) = 92) = False := eq_false fun h => c3 (UInt8.toNat_inj.1 (show c.toNat = (92 : UInt8).toNat by rw [show (92 : UInt8).toNat = 92 from rfl]; omega))
      simp only [qPre_map] at hQ
      rw [show i - 1 + 1 = i + 1 - 1 by omega] at hQ
      clear c1 c2 c3
      repeat' (first | refine xs ?_ ?_ <;> intros | ((first | refine xh ?_ | refine xi ?_); intro bx hbx; (try simp only [fb] at hbx)) | (refine build_one tfB (a := byteA c) rfl rfl (by omega) ?_) | (refine app_buf (ys := [byteA c]) hB tfB (asrc_sl tfBE) (fun a ha => by simp at ha; subst ha; rfl) (by rw [bytesA_len]; simp only [List.length_cons, List.length_nil]; omega) (fun v3 σ3 hB4 hx4 => ?_)) | refine xj ?_ | refine cv_plain ?_ | ((with_reducible refine And.intro ?_ ?_); omega) | refine bo_buildSlice (d' := ⟨⟩) ?_ | refine xk (by kernel_rfl) ?_ | refine xf ?_ (by repeat' first | exact lr _ | assumption | refine ls ?_ ?_ | refine lt ?_ ?_ | simp only [*]; done | simp only [fb, *, not_false_eq_true, and_self]; done | exact lf ‹_› (by simp only [*])) | refine finish_two ?_ (by repeat' first | exact lr _ | assumption | refine ls ?_ ?_ | refine lt ?_ ?_ | simp only [*]; done | simp only [fb, *, not_false_eq_true, and_self]; done | exact lf ‹_› (by simp only [*])) | simp -dsimp only [↓bp, bq, br, seval, tbScnC, *] | refine cv_any ?_)
      all_goals exact ⟨s.length - (i + 1), by omega, i + 1, v3, t ++ [c], by omega, by omega, by rw [List.length_append, List.length_singleton]; omega, by omega, rfl, rfl, by rw [bytesA_snoc]; exact hB4, rfl⟩
  · have : i = s.length := by omega
    subst this
    rw [List.drop_length] at hQ
    have hlt' := eq_false hlt
    rw [hQ]
    have hle := hB.le
    clear hQ hlt hB
    repeat' (first | refine xs ?_ ?_ <;> intros | ((first | refine xh ?_ | refine xi ?_); intro bx hbx; (try simp only [fb] at hbx)) | refine xj ?_ | refine cv_plain ?_ | ((with_reducible refine And.intro ?_ ?_); omega) | refine bo_buildSlice (d' := ⟨⟩) ?_ | refine xk (by kernel_rfl) ?_ | refine xf ?_ (by repeat' first | exact lr _ | assumption | refine ls ?_ ?_ | refine lt ?_ ?_ | simp only [*]; done | simp only [fb, *, not_false_eq_true, and_self]; done | exact lf ‹_› (by simp only [*])) | refine finish_two ?_ (by repeat' first | exact lr _ | assumption | refine ls ?_ ?_ | refine lt ?_ ?_ | simp only [*]; done | simp only [fb, *, not_false_eq_true, and_self]; done | exact lf ‹_› (by simp only [*])) | simp -dsimp only [↓bp, bq, br, seval, tbScnC, *] | refine cv_any ?_)
    all_goals exact finish_le2 (Le.refl _) hle
end
end Go.Proofs.YtldmniappliepaaDoor
