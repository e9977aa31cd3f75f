/- What the library says of texts: prefixes, first places, trims; a number of two digits in base 16. -/
import Derived.Test.YtldmniappliepaaGreatDoorY13
import Derived.Test.YtldmniappliepaaGreatDoorY14
import Derived.Shelf.Strings.SlTrimAscii
set_option linter.unusedVariables false
set_option linter.unusedSimpArgs false
set_option maxRecDepth 20000
set_option linter.defProp false
namespace Go.Proofs.YtldmniappliepaaGreatDoor
open Go Go.Av
section
open Go Go.Av Go.RowKit
def tbScnB := And.intro (And.intro (And.intro @tf3 @tf4) (And.intro @tf5 (And.intro @tf9 @tf37))) (And.intro (And.intro @tf43 (And.intro @tf23 @tf41)) (And.intro @tf129 (And.intro @tf80 @tf89)))
structure GlobS (G : Nat → AV) : Prop where
  words : G 0 = .rp (scanWords.map AV.str)
  signs : G 2 = .rp (scanSigns.map AV.str)
  most : ∃ m, G 4 = .rp [.int .i64 m]
variable {G : Nat → AV}
theorem vrl_two {K : Ctx} {s t : List UInt8} {l : List Value} (h : VRl K [.str s, .str t] l) : l = [.string ⟨⟨s⟩⟩, .string ⟨⟨t⟩⟩] := by
  match l, h with
  | [a, b], ⟨h1, h2, _⟩ => rw [VR.str_iff] at h1 h2; rw [h1, h2]
theorem scontains_pure (hg : GlobS G) (s t : List UInt8) (hs : s.length < 4294967281) : Pure Tryz.prog G 43 [.str s, .str t] (.bool (Lib.contains s t)) := by
  obtain ⟨m, hm⟩ := hg.most
  refine Pure.of_calls (vals := [.string ⟨⟨s⟩⟩, .string ⟨⟨t⟩⟩]) (u := .bool (Lib.contains s t)) (by kernel_rfl) (fun K l h => vrl_two h) (fun K => .bool _) (fun K σ w hr => ?_)
  have hg := hr.glob 4
  rw [hm] at hg
  have hc : w.cell? ⟨4, 0, none⟩ = some (.int .i64 m) := by
    cases hg with
    | rp _ b off f h1 himm hv =>
      have h2 := hr.imm _ _ _ (himm 0 (by simp))
      have h3 := hv 0 (by simp)
      simp only [List.getElem_cons_zero, VR.int_iff] at h3
      rw [h3] at h2
      exact h2
  exact (Tryz.strings_Contains ⟨⟨s⟩⟩ ⟨⟨t⟩⟩ m w (by show s.length < _; exact hs) hc).mono fun e w' ⟨he, hw⟩ => ⟨he, by subst hw; exact Below.refl _ _⟩
variable (G)
theorem strim_pure (s t : List UInt8) (hs : s.length ≤ 4294967281) (ht : t.length < 4294967281) (ha : t.all (fun b => decide (b.toNat < 128)) = true) : Pure Tryz.prog G 79 [.str s, .str t] (.str (Lib.trimS s t)) := by
  refine Pure.of_calls (vals := [.string ⟨⟨s⟩⟩, .string ⟨⟨t⟩⟩]) (u := .string ⟨⟨Lib.trimS s t⟩⟩) (by kernel_rfl) (fun K l h => vrl_two h) (fun K => .str _) (fun K σ w hr => ?_)
  exact Any.strings_Trim_laid Tryz.lays160 (by kernel_rfl) ⟨⟨s⟩⟩ ⟨⟨t⟩⟩ w (by show s.length ≤ _; omega) (by show t.length < _; omega) (ascii_of_all ha)
theorem hasPrefix_pure (s t : List UInt8) : Pure Tryz.prog G 30 [.str s, .str t] (.bool (t.isPrefixOf s)) := by
  refine Pure.of_calls (vals := [.string ⟨⟨s⟩⟩, .string ⟨⟨t⟩⟩]) (u := .bool (t.isPrefixOf s)) (by kernel_rfl) (fun K l h => vrl_two h) (fun K => .bool _) (fun K σ w hr => ?_)
  exact (Tryz.strings_HasPrefix ⟨⟨s⟩⟩ ⟨⟨t⟩⟩ w).mono fun e w' ⟨he, hw⟩ => ⟨he, by subst hw; exact Below.refl _ _⟩
theorem indexByte_pure (s : List UInt8) (c : UInt8) : Pure Tryz.prog G 19 [.str s, .int .u8 c.toNat] (.int .i64 (Lib.indexByte s c)) := by
  refine Pure.of_calls (vals := [.string ⟨⟨s⟩⟩, .int .u8 c.toNat]) (u := .int .i64 (Lib.indexByte s c)) (by kernel_rfl) (fun K l h => ?_) (fun K => .int _ _) (fun K σ w hr => ?_)
  · match l, h with
    | [a, b], ⟨h1, h2, _⟩ => rw [VR.str_iff] at h1; rw [VR.int_iff] at h2; rw [h1, h2]
  · refine (Tryz.strings_IndexByte ⟨⟨s⟩⟩ c.toNat w).mono fun e w' ⟨he, hw⟩ => ⟨?_, by subst hw; exact Below.refl _ _⟩
    rw [he]
    simp
theorem indexByte_nl : ∀ s : List UInt8, Lib.indexByte s 10 = if (s.takeWhile notNL).length < s.length then ((s.takeWhile notNL).length : Int) else -1
  | [] => rfl
  | c :: s => by
    have ih := indexByte_nl s
    have hle := takeWhile_len (p := notNL) s
    unfold Lib.indexByte
    rw [ih]
    by_cases hc : c = 10
    · subst hc
      simp [notNL]
    · have h1 : (c == 10) = false := by simpa using hc
      have h2 : notNL c = true := by unfold notNL; rw [h1]; rfl
      rw [List.takeWhile_cons, if_pos h2, h1]
      simp only [Bool.false_eq_true, if_false, List.length_cons]
      generalize (s.takeWhile notNL).length = a at *
      generalize s.length = b at *
      by_cases hl : a < b
      · have h3 : ((a : Int) == -1) = false := by rw [beq_eq_false_iff_ne]; omega
        simp [hl, h3]
      · simp [hl]
def hexS : List UInt8 := [48, 49, 50, 51, 52, 53, 54, 55, 56, 57, 97, 98, 99, 100, 101, 102, 65, 66, 67, 68, 69, 70]
theorem u8_all {p : UInt8 → Bool} (h : ∀ n : Fin 256, p (UInt8.ofNat n.val) = true) (c : UInt8) : p c = true := by
  have := h ⟨c.toNat, c.toNat_lt⟩
  rwa [show UInt8.ofNat c.toNat = c from UInt8.ofNat_toNat] at this
theorem hexS_mem (c : UInt8) : hexS.contains c = hexB c := by
  have h := u8_all (p := fun c => hexS.contains c == hexB c) (by decide +kernel) c
  simpa using h
theorem trim_hex (h l : UInt8) : (decide (¬ Lib.trimS [h, l] hexS = [])) = !(hexB h && hexB l) := by
  have e : Lib.trimS [h, l] hexS = if hexB l then (if hexB h then [] else [h]) else (if hexB h then [l] else [h, l]) := by
    unfold Lib.trimS Lib.trimLeftS Lib.trimRightS
    simp only [hexS_mem]
    cases eh : hexB h <;> cases el : hexB l <;> simp [List.dropWhile, eh, el]
  rw [e]
  cases hexB h <;> cases hexB l <;> simp
theorem hex_lt (c : UInt8) (h : hexB c = true) : hexV c < 16 := by
  have h2 := u8_all (p := fun c => !hexB c || decide (hexV c < 16)) (by decide +kernel) c
  simpa [h] using h2
theorem slower_pure (c : UInt8) (h : hexB c = true) (hd : digitB c = false) : Pure Tryz.prog G 139 [.int .u8 c.toNat] (.int .u8 (hexV c + 87 : Nat)) := by
  have hb : bits .or .u8 c.toNat 32 = ((hexV c + 87 : Nat) : Int) := by
    have h2 := u8_all (p := fun c => !hexB c || digitB c || decide (bits .or .u8 c.toNat 32 = ((hexV c + 87 : Nat) : Int))) (by decide +kernel) c
    simpa [h, hd] using h2
  refine Pure.of_calls (vals := [.int .u8 c.toNat]) (u := .int .u8 (hexV c + 87 : Nat)) (by kernel_rfl) (fun K l h => ?_) (fun K => .int _ _) (fun K σ w hr => ?_)
  · match l, h with
    | [a], ⟨h1, _⟩ => rw [VR.int_iff] at h1; rw [h1]
  · refine (Tryz.internal_strconv_lower c.toNat w).mono fun e w' ⟨he, hw⟩ => ⟨?_, by subst hw; exact Below.refl _ _⟩
    rw [he, hb]
theorem hexV_digit {c : UInt8} (h : digitB c = true) : ((c.toNat : Int) - 48 = hexV c) ∧ (48 : Int) ≤ c.toNat ∧ (c.toNat : Int) ≤ 57 := by
  have h2 := h
  unfold digitB at h2
  simp only [Bool.and_eq_true, decide_eq_true_eq] at h2
  unfold hexV
  rw [if_pos h]; omega
def hexUp (h l : UInt8) (i : Nat) : Nat := if i = 0 then 0 else if i = 1 then hexV h else 16 * hexV h + hexV l
set_option maxHeartbeats 4000000 in
theorem iParse_pure (h l : UInt8) (hh : hexB h = true) (hl : hexB l = true) : Pure Tryz.prog G 121 [.str [h, l], .int .i64 16, .int .i64 8] (.tup [.int .u64 (16 * hexV h + hexV l : Nat), .raw .nilIface]) := by
  have b1 := hex_lt h hh
  have b2 := hex_lt l hl
  intro σ
  have hml : (2 ≤ maxLen) = True := eq_true (by unfold maxLen; omega)
  have w8 : IntKind.u64.wrap 8 = 8 := by decide
  have w1 : IntKind.u64.wrap (IntKind.u64.wrap (1 * 2 ^ min 8 IntKind.u64.bits) - 1) = 255 := by decide
  have w16 : IntKind.u64.wrap 16 = 16 := by decide
  have v16 : IntKind.u8.wrap 16 = 16 := by decide
  refine Tri.of_awp mixed Tryz.func121 rfl (by kernel_rfl) (by kernel_rfl) (by simp [Tryz.ntmps121]) Tryz.results121 ?_
  repeat' (first | refine xs ?_ ?_ <;> intros | ((first | refine xh ?_ | refine xi ?_); intro bx hbx; (try simp only [fb] at hbx)) | refine xj ?_ | refine cv_plain ?_ | ((with_reducible refine And.intro ?_ ?_); omega) | refine bo_buildSlice (d' := ⟨⟩) ?_ | refine xk (by kernel_rfl) ?_ | refine xf ?_ (by repeat' first | exact lr _ | assumption | refine ls ?_ ?_ | refine lt ?_ ?_ | simp only [*]; done | simp only [fb, *, not_false_eq_true, and_self]; done | exact lf ‹_› (by simp only [*])) | refine finish_two ?_ (by repeat' first | exact lr _ | assumption | refine ls ?_ ?_ | refine lt ?_ ?_ | simp only [*]; done | simp only [fb, *, not_false_eq_true, and_self]; done | exact lf ‹_› (by simp only [*])) | simp -dsimp only [↓bp, bq, br, seval, tbScnB, *] | refine cv_any ?_)
  refine loop_keep mixed (fun n e => ∃ i : Nat, i ≤ 2 ∧ n = 2 - i ∧ e 101 = .int .i64 i ∧ e 13 = .int .u64 (hexUp h l i) ∧ e 12 = .bool false) 2
    ⟨0, by omega, by omega, by first | (simp -dsimp only [↓bp, bq, br, seval, tbScnB]; done) | (simp -dsimp only [↓bp, bq, br, seval, tbScnB]; try rfl), by first | (simp -dsimp only [↓bp, bq, br, seval, tbScnB]; done) | (simp -dsimp only [↓bp, bq, br, seval, tbScnB]; try rfl), by first | (simp -dsimp only [↓bp, bq, br, seval, tbScnB]; done) | (simp -dsimp only [↓bp, bq, br, seval, tbScnB]; try rfl)⟩ ?_
  rintro n v ⟨i, hi, rfl, h101, h13, h12⟩
  simp -dsimp only [↓bp, bq, br, seval, tbScnB] at h101 h13 h12
  by_cases hlt : (i : Int) < 2
  · have key : ∀ c : UInt8, hexB c = true → [h, l][i]? = some c → hexUp h l (i + 1) = 16 * hexUp h l i + hexV c ∧ hexUp h l i < 16 := fun c hc he => by
      match i, hlt with
      | 0, _ => simp only [List.getElem?_cons_zero, Option.some.injEq] at he; subst he; simp [hexUp]
      | 1, _ => simp only [List.getElem?_cons_succ, List.getElem?_cons_zero, Option.some.injEq] at he; subst he; simp [hexUp]; exact b1
    obtain ⟨c, hc⟩ : ∃ c, [h, l][i]? = some c := ⟨_, List.getElem?_eq_getElem (by simp; omega)⟩
    have hcx : hexB c = true := by
      have := List.mem_of_getElem? hc
      simp only [List.mem_cons, List.not_mem_nil, or_false] at this
      rcases this with rfl | rfl <;> assumption
    obtain ⟨k1, k2⟩ := key c hcx hc
    have b3 := hex_lt c hcx
    have hw : IntKind.i64.wrap ((i : Int) + 1) = ((i + 1 : Nat) : Int) := by rw [wrap_nat (by omega) (by omega)]; rfl
    have hlt' := eq_true hlt
    generalize hexUp h l i = p at *
    have hcm : ([h, l].map fun c => AV.int .u8 (c.toNat : Int))[i]? = some (.int .u8 c.toNat) := by rw [List.getElem?_map, hc]; rfl
    simp only [List.map_cons, List.map_nil] at hcm
    have hct := c.toNat_lt
    have e1 : IntKind.u64.wrap ((p : Int) * 16) = ((16 * p : Nat) : Int) := by
      have : IntKind.u64.wrap ((p : Int) * 16) = (p : Int) * 16 := by unfold IntKind.wrap; simp [IntKind.signed, IntKind.bits]; omega
      rw [this]; omega
    have e2 : IntKind.u64.wrap (hexV c : Int) = (hexV c : Int) := by unfold IntKind.wrap; simp [IntKind.signed, IntKind.bits]; omega
    have e3 : IntKind.u64.wrap (((16 * p : Nat) : Int) + (hexV c : Int)) = ((16 * p + hexV c : Nat) : Int) := by
      have : IntKind.u64.wrap (((16 * p : Nat) : Int) + (hexV c : Int)) = ((16 * p : Nat) : Int) + (hexV c : Int) := by unfold IntKind.wrap; simp [IntKind.signed, IntKind.bits]; omega
      rw [this]; omega
    have e4 : (((16 * p + hexV c : Nat) : Int) < ((16 * p : Nat) : Int)) = False := eq_false (by omega)
    have e5 : ((255 : Int) < ((16 * p + hexV c : Nat) : Int)) = False := eq_false (by omega)
    have e6 : ((1152921504606846976 : Int) ≤ (p : Int)) = False := eq_false (by omega)
    have e7 : ((16 : Int) ≤ (hexV c : Int)) = False := eq_false (by omega)
    have hn95 : ((c.toNat : Int) = 95) = False := eq_false fun e => by
      have : c = 95 := UInt8.toNat_inj.1 (show c.toNat = (95 : UInt8).toNat by rw [show (95 : UInt8).toNat = 95 from rfl]; omega)
      subst this; revert hcx; decide
    by_cases hd : digitB c = true
    · obtain ⟨d1, d2, d3⟩ := hexV_digit hd
      have d2 := eq_true d2
      have d3 := eq_true d3
      have d4 : IntKind.u8.wrap ((c.toNat : Int) - 48) = (hexV c : Int) := by rw [d1]; unfold IntKind.wrap; simp [IntKind.signed, IntKind.bits]; omega
      clear key hc b1 b2 hh hl hi hlt hcx hd d1 b3 hct k2
      repeat' (first | refine xs ?_ ?_ <;> intros | ((first | refine xh ?_ | refine xi ?_); intro bx hbx; (try simp only [fb] at hbx)) | refine xj ?_ | refine cv_plain ?_ | ((with_reducible refine And.intro ?_ ?_); omega) | refine bo_buildSlice (d' := ⟨⟩) ?_ | refine xk (by kernel_rfl) ?_ | refine xf ?_ (by repeat' first | exact lr _ | assumption | refine ls ?_ ?_ | refine lt ?_ ?_ | simp only [*]; done | simp only [fb, *, not_false_eq_true, and_self]; done | exact lf ‹_› (by simp only [*])) | refine finish_two ?_ (by repeat' first | exact lr _ | assumption | refine ls ?_ ?_ | refine lt ?_ ?_ | simp only [*]; done | simp only [fb, *, not_false_eq_true, and_self]; done | exact lf ‹_› (by simp only [*])) | simp -dsimp only [↓bp, bq, br, seval, tbScnB, *] | refine cv_any ?_)
      all_goals (have hlt := of_eq_true hlt')
      all_goals exact ⟨2 - (i + 1), by omega, i + 1, by omega, rfl, rfl, by rw [k1]⟩
    · have hd : digitB c = false := by simpa using hd
      have hlow := slower_pure G c hcx hd
      have d0 : ((48 : Int) ≤ (c.toNat : Int) ∧ (c.toNat : Int) ≤ 57) = False := eq_false fun ⟨q1, q2⟩ => by
        unfold digitB at hd
        simp only [Bool.and_eq_false_iff, decide_eq_false_iff_not] at hd
        omega
      have hge : 10 ≤ hexV c := by
        have h2 := u8_all (p := fun c => !hexB c || digitB c || decide (10 ≤ hexV c)) (by decide +kernel) c
        simpa [hcx, hd] using h2
      have d1 : ((48 : Int) ≤ (c.toNat : Int)) = True := eq_true (by
        have h2 := u8_all (p := fun c => !hexB c || decide (48 ≤ c.toNat)) (by decide +kernel) c
        have : 48 ≤ c.toNat := by simpa [hcx] using h2
        omega)
      have d2 : ((c.toNat : Int) ≤ 57) = False := eq_false fun q => by rw [d1] at d0; simp only [true_and] at d0; exact (by rw [d0] at q; exact q)
      have d3 : ((97 : Int) ≤ ((hexV c + 87 : Nat) : Int)) = True := eq_true (by omega)
      have d4 : (((hexV c + 87 : Nat) : Int) ≤ 122) = True := eq_true (by omega)
      have d5 : IntKind.u8.wrap (((hexV c + 87 : Nat) : Int) - 97) = ((hexV c - 10 : Nat) : Int) := by
        have : ((hexV c + 87 : Nat) : Int) - 97 = ((hexV c - 10 : Nat) : Int) := by omega
        rw [this]; unfold IntKind.wrap; simp [IntKind.signed, IntKind.bits]; omega
      have d6 : IntKind.u8.wrap (((hexV c - 10 : Nat) : Int) + 10) = (hexV c : Int) := by
        have : ((hexV c - 10 : Nat) : Int) + 10 = (hexV c : Int) := by omega
        rw [this]; unfold IntKind.wrap; simp [IntKind.signed, IntKind.bits]; omega
      clear key hc b1 b2 hh hl hi hlt hcx hd d0 b3 hct hge k2
      repeat' (first | refine xs ?_ ?_ <;> intros | ((first | refine xh ?_ | refine xi ?_); intro bx hbx; (try simp only [fb] at hbx)) | refine Pure.use (hlow) ?_ | refine Pure.head (hlow) ?_ | refine xj ?_ | refine cv_plain ?_ | ((with_reducible refine And.intro ?_ ?_); omega) | refine bo_buildSlice (d' := ⟨⟩) ?_ | refine xk (by kernel_rfl) ?_ | refine xf ?_ (by repeat' first | exact lr _ | assumption | refine ls ?_ ?_ | refine lt ?_ ?_ | simp only [*]; done | simp only [fb, *, not_false_eq_true, and_self]; done | exact lf ‹_› (by simp only [*])) | refine finish_two ?_ (by repeat' first | exact lr _ | assumption | refine ls ?_ ?_ | refine lt ?_ ?_ | simp only [*]; done | simp only [fb, *, not_false_eq_true, and_self]; done | exact lf ‹_› (by simp only [*])) | simp -dsimp only [↓bp, bq, br, seval, tbScnB, *] | refine cv_any ?_)
      all_goals (have hlt := of_eq_true hlt')
      all_goals exact ⟨2 - (i + 1), by omega, i + 1, by omega, rfl, rfl, by rw [k1]⟩
  · have : i = 2 := by omega
    subst this
    have hlt' := eq_false hlt
    have e1 : hexUp h l 2 = 16 * hexV h + hexV l := by simp [hexUp]
    rw [e1] at h13
    clear hlt hi
    repeat' (first | refine xs ?_ ?_ <;> intros | ((first | refine xh ?_ | refine xi ?_); intro bx hbx; (try simp only [fb] at hbx)) | refine xj ?_ | refine cv_plain ?_ | ((with_reducible refine And.intro ?_ ?_); omega) | refine bo_buildSlice (d' := ⟨⟩) ?_ | refine xk (by kernel_rfl) ?_ | refine xf ?_ (by repeat' first | exact lr _ | assumption | refine ls ?_ ?_ | refine lt ?_ ?_ | simp only [*]; done | simp only [fb, *, not_false_eq_true, and_self]; done | exact lf ‹_› (by simp only [*])) | refine finish_two ?_ (by repeat' first | exact lr _ | assumption | refine ls ?_ ?_ | refine lt ?_ ?_ | simp only [*]; done | simp only [fb, *, not_false_eq_true, and_self]; done | exact lf ‹_› (by simp only [*])) | simp -dsimp only [↓bp, bq, br, seval, tbScnB, *] | refine cv_any ?_)
    all_goals rfl
theorem parse_pure (h l : UInt8) (hh : hexB h = true) (hl : hexB l = true) : Pure Tryz.prog G 80 [.str [h, l], .int .i64 16, .int .i64 8] (.tup [.int .u64 (16 * hexV h + hexV l : Nat), .raw .nilIface]) := by
  have hp := iParse_pure G h l hh hl
  intro σ
  refine Tri.of_awp mixed Tryz.func80 rfl (by kernel_rfl) (by kernel_rfl) (by simp [Tryz.ntmps80]) Tryz.results80 ?_
  repeat' (first | refine xs ?_ ?_ <;> intros | ((first | refine xh ?_ | refine xi ?_); intro bx hbx; (try simp only [fb] at hbx)) | refine Pure.use (hp) ?_ | refine Pure.head (hp) ?_ | refine xj ?_ | refine cv_plain ?_ | ((with_reducible refine And.intro ?_ ?_); omega) | refine bo_buildSlice (d' := ⟨⟩) ?_ | refine xk (by kernel_rfl) ?_ | refine xf ?_ (by repeat' first | exact lr _ | assumption | refine ls ?_ ?_ | refine lt ?_ ?_ | simp only [*]; done | simp only [fb, *, not_false_eq_true, and_self]; done | exact lf ‹_› (by simp only [*])) | refine finish_two ?_ (by repeat' first | exact lr _ | assumption | refine ls ?_ ?_ | refine lt ?_ ?_ | simp only [*]; done | simp only [fb, *, not_false_eq_true, and_self]; done | exact lf ‹_› (by simp only [*])) | simp -dsimp only [↓bp, bq, br, seval, tbScnB, *] | refine cv_any ?_)
  all_goals rfl
end
set_option maxRecDepth 20000
section
def tbRScA := And.intro (And.intro @tf3 @tf4) (And.intro @tf5 (And.intro @tf9 @tf33))
variable (G : Nat → AV)
theorem rlow_pure (c : UInt8) : Pure Tryz.prog G 44 [.int .u8 c.toNat] (.bool (lowB c)) := by
  intro σ
  refine Tri.of_awp mixed Tryz.func44 rfl (by kernel_rfl) (by kernel_rfl) (by simp [Tryz.ntmps44]) Tryz.results44 ?_
  repeat' (first | refine xs ?_ ?_ <;> intros | ((first | refine xh ?_ | refine xi ?_); intro bx hbx; (try simp only [fb] at hbx)) | refine xj ?_ | refine cv_plain ?_ | ((with_reducible refine And.intro ?_ ?_); omega) | refine bo_buildSlice (d' := ⟨⟩) ?_ | refine xk (by kernel_rfl) ?_ | refine xf ?_ (by repeat' first | exact lr _ | assumption | refine ls ?_ ?_ | refine lt ?_ ?_ | simp only [*]; done | simp only [fb, *, not_false_eq_true, and_self]; done | exact lf ‹_› (by simp only [*])) | refine finish_two ?_ (by repeat' first | exact lr _ | assumption | refine ls ?_ ?_ | refine lt ?_ ?_ | simp only [*]; done | simp only [fb, *, not_false_eq_true, and_self]; done | exact lf ‹_› (by simp only [*])) | simp -dsimp only [↓bp, bq, br, seval, tbRScA, *] | refine cv_any ?_)
  all_goals (first | (simp only [lowB, *, Bool.and_true, Bool.true_and, Bool.and_false, Bool.false_and, Bool.or_true, Bool.true_or, Bool.or_false, Bool.false_or, Bool.not_true, Bool.not_false, if_true, if_false, Bool.and_self, Bool.or_self]; done) | (simp [lowB, *]; done) | (simp_all [lowB]; done))
theorem rhigh_pure (c : UInt8) : Pure Tryz.prog G 45 [.int .u8 c.toNat] (.bool (highB c)) := by
  intro σ
  refine Tri.of_awp mixed Tryz.func45 rfl (by kernel_rfl) (by kernel_rfl) (by simp [Tryz.ntmps45]) Tryz.results45 ?_
  repeat' (first | refine xs ?_ ?_ <;> intros | ((first | refine xh ?_ | refine xi ?_); intro bx hbx; (try simp only [fb] at hbx)) | refine xj ?_ | refine cv_plain ?_ | ((with_reducible refine And.intro ?_ ?_); omega) | refine bo_buildSlice (d' := ⟨⟩) ?_ | refine xk (by kernel_rfl) ?_ | refine xf ?_ (by repeat' first | exact lr _ | assumption | refine ls ?_ ?_ | refine lt ?_ ?_ | simp only [*]; done | simp only [fb, *, not_false_eq_true, and_self]; done | exact lf ‹_› (by simp only [*])) | refine finish_two ?_ (by repeat' first | exact lr _ | assumption | refine ls ?_ ?_ | refine lt ?_ ?_ | simp only [*]; done | simp only [fb, *, not_false_eq_true, and_self]; done | exact lf ‹_› (by simp only [*])) | simp -dsimp only [↓bp, bq, br, seval, tbRScA, *] | refine cv_any ?_)
  all_goals (first | (simp only [highB, *, Bool.and_true, Bool.true_and, Bool.and_false, Bool.false_and, Bool.or_true, Bool.true_or, Bool.or_false, Bool.false_or, Bool.not_true, Bool.not_false, if_true, if_false, Bool.and_self, Bool.or_self]; done) | (simp [highB, *]; done) | (simp_all [highB]; done))
theorem rdigit_pure (c : UInt8) : Pure Tryz.prog G 47 [.int .u8 c.toNat] (.bool (digitB c)) := by
  intro σ
  refine Tri.of_awp mixed Tryz.func47 rfl (by kernel_rfl) (by kernel_rfl) (by simp [Tryz.ntmps47]) Tryz.results47 ?_
  repeat' (first | refine xs ?_ ?_ <;> intros | ((first | refine xh ?_ | refine xi ?_); intro bx hbx; (try simp only [fb] at hbx)) | refine xj ?_ | refine cv_plain ?_ | ((with_reducible refine And.intro ?_ ?_); omega) | refine bo_buildSlice (d' := ⟨⟩) ?_ | refine xk (by kernel_rfl) ?_ | refine xf ?_ (by repeat' first | exact lr _ | assumption | refine ls ?_ ?_ | refine lt ?_ ?_ | simp only [*]; done | simp only [fb, *, not_false_eq_true, and_self]; done | exact lf ‹_› (by simp only [*])) | refine finish_two ?_ (by repeat' first | exact lr _ | assumption | refine ls ?_ ?_ | refine lt ?_ ?_ | simp only [*]; done | simp only [fb, *, not_false_eq_true, and_self]; done | exact lf ‹_› (by simp only [*])) | simp -dsimp only [↓bp, bq, br, seval, tbRScA, *] | refine cv_any ?_)
  all_goals (first | (simp only [digitB, *, Bool.and_true, Bool.true_and, Bool.and_false, Bool.false_and, Bool.or_true, Bool.true_or, Bool.or_false, Bool.false_or, Bool.not_true, Bool.not_false, if_true, if_false, Bool.and_self, Bool.or_self]; done) | (simp [digitB, *]; done) | (simp_all [digitB]; done))
def blankI (c : UInt8) : Bool := decide ((c.toNat : Int) = 9) || decide ((c.toNat : Int) = 10) || decide ((c.toNat : Int) = 13) || decide ((c.toNat : Int) = 32)
theorem blankI_eq (c : UInt8) : blankI c = blankB c := by
  have h := u8_all (p := fun c => blankI c == blankB c) (by decide +kernel) c
  simpa using h
theorem rblank_pure (c : UInt8) : Pure Tryz.prog G 21 [.int .u8 c.toNat] (.bool (blankB c)) := by
  rw [← blankI_eq]
  intro σ
  refine Tri.of_awp mixed Tryz.func21 rfl (by kernel_rfl) (by kernel_rfl) (by simp [Tryz.ntmps21]) Tryz.results21 ?_
  repeat' (first | refine xs ?_ ?_ <;> intros | ((first | refine xh ?_ | refine xi ?_); intro bx hbx; (try simp only [fb] at hbx)) | refine xj ?_ | refine cv_plain ?_ | ((with_reducible refine And.intro ?_ ?_); omega) | refine bo_buildSlice (d' := ⟨⟩) ?_ | refine xk (by kernel_rfl) ?_ | refine xf ?_ (by repeat' first | exact lr _ | assumption | refine ls ?_ ?_ | refine lt ?_ ?_ | simp only [*]; done | simp only [fb, *, not_false_eq_true, and_self]; done | exact lf ‹_› (by simp only [*])) | refine finish_two ?_ (by repeat' first | exact lr _ | assumption | refine ls ?_ ?_ | refine lt ?_ ?_ | simp only [*]; done | simp only [fb, *, not_false_eq_true, and_self]; done | exact lf ‹_› (by simp only [*])) | simp -dsimp only [↓bp, bq, br, seval, tbRScA, *] | refine cv_any ?_)
  all_goals (first | (simp only [blankI, *, Bool.and_true, Bool.true_and, Bool.and_false, Bool.false_and, Bool.or_true, Bool.true_or, Bool.or_false, Bool.false_or, Bool.not_true, Bool.not_false, if_true, if_false, Bool.and_self, Bool.or_self]; done) | (simp [blankI, *]; done) | (simp_all [blankI]; done))
theorem rnamed_pure (c : UInt8) : Pure Tryz.prog G 48 [.int .u8 c.toNat] (.bool (namedB c)) := by
  intro σ
  refine Tri.of_awp mixed Tryz.func48 rfl (by kernel_rfl) (by kernel_rfl) (by simp [Tryz.ntmps48]) Tryz.results48 ?_
  repeat' (first | refine xs ?_ ?_ <;> intros | ((first | refine xh ?_ | refine xi ?_); intro bx hbx; (try simp only [fb] at hbx)) | refine Pure.use (rlow_pure G c) ?_ | refine Pure.head (rlow_pure G c) ?_ | refine Pure.use (rhigh_pure G c) ?_ | refine Pure.head (rhigh_pure G c) ?_ | refine Pure.use (rdigit_pure G c) ?_ | refine Pure.head (rdigit_pure G c) ?_ | refine xj ?_ | refine cv_plain ?_ | ((with_reducible refine And.intro ?_ ?_); omega) | refine bo_buildSlice (d' := ⟨⟩) ?_ | refine xk (by kernel_rfl) ?_ | refine xf ?_ (by repeat' first | exact lr _ | assumption | refine ls ?_ ?_ | refine lt ?_ ?_ | simp only [*]; done | simp only [fb, *, not_false_eq_true, and_self]; done | exact lf ‹_› (by simp only [*])) | refine finish_two ?_ (by repeat' first | exact lr _ | assumption | refine ls ?_ ?_ | refine lt ?_ ?_ | simp only [*]; done | simp only [fb, *, not_false_eq_true, and_self]; done | exact lf ‹_› (by simp only [*])) | simp -dsimp only [↓bp, bq, br, seval, tbRScA, *] | refine cv_any ?_)
  all_goals (first | (simp only [namedB, *, Bool.and_true, Bool.true_and, Bool.and_false, Bool.false_and, Bool.or_true, Bool.true_or, Bool.or_false, Bool.false_or, Bool.not_true, Bool.not_false, if_true, if_false, Bool.and_self, Bool.or_self]; done) | (simp [namedB, *]; done) | (simp_all [namedB]; done))
def hexI (c : UInt8) : Int := if hexB c then ((hexV c : Nat) : Int) else -1
theorem hexI_pos {c : UInt8} (h : hexB c = true) : hexI c = ((hexV c : Nat) : Int) := if_pos h
theorem hexI_neg {c : UInt8} (h : hexB c = false) : hexI c = -1 := by unfold hexI; rw [h]; rfl
theorem hex_cases (c : UInt8) : digitB c = true ∧ hexB c = true ∧ IntKind.u8.wrap ((c.toNat : Int) - 48) = hexV c ∨
    digitB c = false ∧ hexB c = true ∧ ((97 : Int) ≤ c.toNat) = True ∧ ((c.toNat : Int) ≤ 102) = True ∧ IntKind.u8.wrap ((c.toNat : Int) - 97) = ((hexV c - 10 : Nat) : Int) ∧ 10 ≤ hexV c ∨
    digitB c = false ∧ hexB c = true ∧ ((97 : Int) ≤ c.toNat) = False ∧ ((65 : Int) ≤ c.toNat) = True ∧ ((c.toNat : Int) ≤ 70) = True ∧ IntKind.u8.wrap ((c.toNat : Int) - 65) = ((hexV c - 10 : Nat) : Int) ∧ 10 ≤ hexV c ∨
    digitB c = false ∧ hexB c = false ∧ ((97 : Int) ≤ c.toNat) = False ∧ ((65 : Int) ≤ c.toNat) = False ∨
    digitB c = false ∧ hexB c = false ∧ ((97 : Int) ≤ c.toNat) = False ∧ ((65 : Int) ≤ c.toNat) = True ∧ ((c.toNat : Int) ≤ 70) = False ∨
    digitB c = false ∧ hexB c = false ∧ ((97 : Int) ≤ c.toNat) = True ∧ ((c.toNat : Int) ≤ 102) = False ∧ ((65 : Int) ≤ c.toNat) = True ∧ ((c.toNat : Int) ≤ 70) = False := by
  have h := u8_all (p := fun c => (digitB c && hexB c && decide (IntKind.u8.wrap ((c.toNat : Int) - 48) = hexV c)) ||
    (!digitB c && hexB c && decide ((97 : Int) ≤ c.toNat) && decide ((c.toNat : Int) ≤ 102) && decide (IntKind.u8.wrap ((c.toNat : Int) - 97) = ((hexV c - 10 : Nat) : Int)) && decide (10 ≤ hexV c)) ||
    (!digitB c && hexB c && !decide ((97 : Int) ≤ c.toNat) && decide ((65 : Int) ≤ c.toNat) && decide ((c.toNat : Int) ≤ 70) && decide (IntKind.u8.wrap ((c.toNat : Int) - 65) = ((hexV c - 10 : Nat) : Int)) && decide (10 ≤ hexV c)) ||
    (!digitB c && !hexB c && !decide ((97 : Int) ≤ c.toNat) && !decide ((65 : Int) ≤ c.toNat)) ||
    (!digitB c && !hexB c && !decide ((97 : Int) ≤ c.toNat) && decide ((65 : Int) ≤ c.toNat) && !decide ((c.toNat : Int) ≤ 70)) ||
    (!digitB c && !hexB c && decide ((97 : Int) ≤ c.toNat) && !decide ((c.toNat : Int) ≤ 102) && decide ((65 : Int) ≤ c.toNat) && !decide ((c.toNat : Int) ≤ 70))) (by decide +kernel) c
  simp only [Bool.or_eq_true, Bool.and_eq_true, Bool.not_eq_true', decide_eq_true_eq, decide_eq_false_iff_not] at h
  rcases h with ((((⟨⟨h1, h2⟩, h3⟩ | ⟨⟨⟨⟨⟨h1, h2⟩, h3⟩, h4⟩, h5⟩, h6⟩) | ⟨⟨⟨⟨⟨⟨h1, h2⟩, h3⟩, h4⟩, h5⟩, h6⟩, h7⟩) | ⟨⟨⟨h1, h2⟩, h3⟩, h4⟩) | ⟨⟨⟨⟨h1, h2⟩, h3⟩, h4⟩, h5⟩) | ⟨⟨⟨⟨⟨h1, h2⟩, h3⟩, h4⟩, h5⟩, h6⟩
  · exact .inl ⟨h1, h2, h3⟩
  · exact .inr (.inl ⟨h1, h2, eq_true h3, eq_true h4, h5, h6⟩)
  · exact .inr (.inr (.inl ⟨h1, h2, eq_false h3, eq_true h4, eq_true h5, h6, h7⟩))
  · exact .inr (.inr (.inr (.inl ⟨h1, h2, eq_false h3, eq_false h4⟩)))
  · exact .inr (.inr (.inr (.inr (.inl ⟨h1, h2, eq_false h3, eq_true h4, eq_false h5⟩))))
  · exact .inr (.inr (.inr (.inr (.inr ⟨h1, h2, eq_true h3, eq_false h4, eq_true h5, eq_false h6⟩))))
theorem rhex_pure (c : UInt8) : Pure Tryz.prog G 124 [.int .u8 c.toNat] (.int .i64 (hexI c)) := by
  have hd := rdigit_pure G c
  have e2 : hexB c = true → IntKind.i64.wrap (hexV c : Int) = (hexV c : Int) := fun h => by have := hex_lt c h; rw [wrap_nat (by omega) (by omega)]
  have e3 : hexB c = true → IntKind.i64.wrap ((hexV c - 10 : Nat) : Int) = ((hexV c - 10 : Nat) : Int) := fun h => by have := hex_lt c h; rw [wrap_nat (by omega) (by omega)]
  have e4 : hexB c = true → 10 ≤ hexV c → IntKind.i64.wrap (((hexV c - 10 : Nat) : Int) + 10) = (hexV c : Int) := fun h h2 => by have := hex_lt c h; rw [wrap_nat (by omega) (by omega)]; omega
  rcases hex_cases c with ⟨h1, h2, h3⟩ | ⟨h1, h2, h3, h4, h5, h6⟩ | ⟨h1, h2, h3, h4, h5, h6, h7⟩ | ⟨h1, h2, h3, h4⟩ | ⟨h1, h2, h3, h4, h5⟩ | ⟨h1, h2, h3, h4, h5, h6⟩
  · rw [h1] at hd
    rw [hexI_pos h2]
    replace e2 := e2 h2
    clear e3 e4 h1 h2
    intro σ
    refine Tri.of_awp mixed Tryz.func124 rfl (by kernel_rfl) (by kernel_rfl) (by simp [Tryz.ntmps124]) Tryz.results124 ?_
    repeat' (first | refine xs ?_ ?_ <;> intros | ((first | refine xh ?_ | refine xi ?_); intro bx hbx; (try simp only [fb] at hbx)) | refine Pure.use (hd) ?_ | refine Pure.head (hd) ?_ | refine xj ?_ | refine cv_plain ?_ | ((with_reducible refine And.intro ?_ ?_); omega) | refine bo_buildSlice (d' := ⟨⟩) ?_ | refine xk (by kernel_rfl) ?_ | refine xf ?_ (by repeat' first | exact lr _ | assumption | refine ls ?_ ?_ | refine lt ?_ ?_ | simp only [*]; done | simp only [fb, *, not_false_eq_true, and_self]; done | exact lf ‹_› (by simp only [*])) | refine finish_two ?_ (by repeat' first | exact lr _ | assumption | refine ls ?_ ?_ | refine lt ?_ ?_ | simp only [*]; done | simp only [fb, *, not_false_eq_true, and_self]; done | exact lf ‹_› (by simp only [*])) | simp -dsimp only [↓bp, bq, br, seval, tbRScA, *] | refine cv_any ?_)
    all_goals rfl
  · rw [h1] at hd
    rw [hexI_pos h2]
    replace e3 := e3 h2
    replace e4 := e4 h2 h6
    clear e2 h1 h2 h6
    intro σ
    refine Tri.of_awp mixed Tryz.func124 rfl (by kernel_rfl) (by kernel_rfl) (by simp [Tryz.ntmps124]) Tryz.results124 ?_
    repeat' (first | refine xs ?_ ?_ <;> intros | ((first | refine xh ?_ | refine xi ?_); intro bx hbx; (try simp only [fb] at hbx)) | refine Pure.use (hd) ?_ | refine Pure.head (hd) ?_ | refine xj ?_ | refine cv_plain ?_ | ((with_reducible refine And.intro ?_ ?_); omega) | refine bo_buildSlice (d' := ⟨⟩) ?_ | refine xk (by kernel_rfl) ?_ | refine xf ?_ (by repeat' first | exact lr _ | assumption | refine ls ?_ ?_ | refine lt ?_ ?_ | simp only [*]; done | simp only [fb, *, not_false_eq_true, and_self]; done | exact lf ‹_› (by simp only [*])) | refine finish_two ?_ (by repeat' first | exact lr _ | assumption | refine ls ?_ ?_ | refine lt ?_ ?_ | simp only [*]; done | simp only [fb, *, not_false_eq_true, and_self]; done | exact lf ‹_› (by simp only [*])) | simp -dsimp only [↓bp, bq, br, seval, tbRScA, *] | refine cv_any ?_)
    all_goals rfl
  · rw [h1] at hd
    rw [hexI_pos h2]
    replace e3 := e3 h2
    replace e4 := e4 h2 h7
    clear e2 h1 h2 h7
    intro σ
    refine Tri.of_awp mixed Tryz.func124 rfl (by kernel_rfl) (by kernel_rfl) (by simp [Tryz.ntmps124]) Tryz.results124 ?_
    repeat' (first | refine xs ?_ ?_ <;> intros | ((first | refine xh ?_ | refine xi ?_); intro bx hbx; (try simp only [fb] at hbx)) | refine Pure.use (hd) ?_ | refine Pure.head (hd) ?_ | refine xj ?_ | refine cv_plain ?_ | ((with_reducible refine And.intro ?_ ?_); omega) | refine bo_buildSlice (d' := ⟨⟩) ?_ | refine xk (by kernel_rfl) ?_ | refine xf ?_ (by repeat' first | exact lr _ | assumption | refine ls ?_ ?_ | refine lt ?_ ?_ | simp only [*]; done | simp only [fb, *, not_false_eq_true, and_self]; done | exact lf ‹_› (by simp only [*])) | refine finish_two ?_ (by repeat' first | exact lr _ | assumption | refine ls ?_ ?_ | refine lt ?_ ?_ | simp only [*]; done | simp only [fb, *, not_false_eq_true, and_self]; done | exact lf ‹_› (by simp only [*])) | simp -dsimp only [↓bp, bq, br, seval, tbRScA, *] | refine cv_any ?_)
    all_goals rfl
  · rw [h1] at hd
    rw [hexI_neg h2]
    clear e2 e3 e4 h1 h2
    intro σ
    refine Tri.of_awp mixed Tryz.func124 rfl (by kernel_rfl) (by kernel_rfl) (by simp [Tryz.ntmps124]) Tryz.results124 ?_
    repeat' (first | refine xs ?_ ?_ <;> intros | ((first | refine xh ?_ | refine xi ?_); intro bx hbx; (try simp only [fb] at hbx)) | refine Pure.use (hd) ?_ | refine Pure.head (hd) ?_ | refine xj ?_ | refine cv_plain ?_ | ((with_reducible refine And.intro ?_ ?_); omega) | refine bo_buildSlice (d' := ⟨⟩) ?_ | refine xk (by kernel_rfl) ?_ | refine xf ?_ (by repeat' first | exact lr _ | assumption | refine ls ?_ ?_ | refine lt ?_ ?_ | simp only [*]; done | simp only [fb, *, not_false_eq_true, and_self]; done | exact lf ‹_› (by simp only [*])) | refine finish_two ?_ (by repeat' first | exact lr _ | assumption | refine ls ?_ ?_ | refine lt ?_ ?_ | simp only [*]; done | simp only [fb, *, not_false_eq_true, and_self]; done | exact lf ‹_› (by simp only [*])) | simp -dsimp only [↓bp, bq, br, seval, tbRScA, *] | refine cv_any ?_)
    all_goals rfl
  · rw [h1] at hd
    rw [hexI_neg h2]
    clear e2 e3 e4 h1 h2
    intro σ
    refine Tri.of_awp mixed Tryz.func124 rfl (by kernel_rfl) (by kernel_rfl) (by simp [Tryz.ntmps124]) Tryz.results124 ?_
    repeat' (first | refine xs ?_ ?_ <;> intros | ((first | refine xh ?_ | refine xi ?_); intro bx hbx; (try simp only [fb] at hbx)) | refine Pure.use (hd) ?_ | refine Pure.head (hd) ?_ | refine xj ?_ | refine cv_plain ?_ | ((with_reducible refine And.intro ?_ ?_); omega) | refine bo_buildSlice (d' := ⟨⟩) ?_ | refine xk (by kernel_rfl) ?_ | refine xf ?_ (by repeat' first | exact lr _ | assumption | refine ls ?_ ?_ | refine lt ?_ ?_ | simp only [*]; done | simp only [fb, *, not_false_eq_true, and_self]; done | exact lf ‹_› (by simp only [*])) | refine finish_two ?_ (by repeat' first | exact lr _ | assumption | refine ls ?_ ?_ | refine lt ?_ ?_ | simp only [*]; done | simp only [fb, *, not_false_eq_true, and_self]; done | exact lf ‹_› (by simp only [*])) | simp -dsimp only [↓bp, bq, br, seval, tbRScA, *] | refine cv_any ?_)
    all_goals rfl
  · rw [h1] at hd
    rw [hexI_neg h2]
    clear e2 e3 e4 h1 h2
    intro σ
    refine Tri.of_awp mixed Tryz.func124 rfl (by kernel_rfl) (by kernel_rfl) (by simp [Tryz.ntmps124]) Tryz.results124 ?_
    repeat' (first | refine xs ?_ ?_ <;> intros | ((first | refine xh ?_ | refine xi ?_); intro bx hbx; (try simp only [fb] at hbx)) | refine Pure.use (hd) ?_ | refine Pure.head (hd) ?_ | refine xj ?_ | refine cv_plain ?_ | ((with_reducible refine And.intro ?_ ?_); omega) | refine bo_buildSlice (d' := ⟨⟩) ?_ | refine xk (by kernel_rfl) ?_ | refine xf ?_ (by repeat' first | exact lr _ | assumption | refine ls ?_ ?_ | refine lt ?_ ?_ | simp only [*]; done | simp only [fb, *, not_false_eq_true, and_self]; done | exact lf ‹_› (by simp only [*])) | refine finish_two ?_ (by repeat' first | exact lr _ | assumption | refine ls ?_ ?_ | refine lt ?_ ?_ | simp only [*]; done | simp only [fb, *, not_false_eq_true, and_self]; done | exact lf ‹_› (by simp only [*])) | simp -dsimp only [↓bp, bq, br, seval, tbRScA, *] | refine cv_any ?_)
    all_goals rfl
def escS : List UInt8 → UInt8 × Nat
  | [] => (0, 0)
  | e :: r1 => match escB e with
    | some b => (b, 1)
    | none => if e = 120 then match r1 with
        | h :: l :: _ => if hexB h && hexB l then (UInt8.ofNat (16 * hexV h + hexV l), 3) else (0, 0)
        | _ => (0, 0)
      else (0, 0)
theorem escS_cons (e : UInt8) (r1 : List UInt8) : escS (e :: r1) = match escB e with
    | some b => (b, 1)
    | none => if e = 120 then match r1 with
        | h :: l :: _ => if hexB h && hexB l then (UInt8.ofNat (16 * hexV h + hexV l), 3) else (0, 0)
        | _ => (0, 0)
      else (0, 0) := rfl
theorem escS_le (s : List UInt8) : (escS s).2 ≤ s.length ∧ (escS s).2 ≤ 3 := by
  match s with
  | [] => exact ⟨Nat.le_refl _, by show 0 ≤ 3; omega⟩
  | e :: r =>
    rw [escS_cons]
    split
    · simp
    · split
      · split
        · split <;> simp
        · simp
      · simp
theorem qscan_esc {q : UInt8} (hq : q ≠ 92) (r : List UInt8) : qscan q (92 :: r) = if (escS r).2 = 0 then none else (qscan q (r.drop (escS r).2)).map fun p => ((escS r).1 :: p.1, p.2 + ((escS r).2 + 1)) := by
  rw [qscan_cons, if_neg (Ne.symm hq), if_neg (by decide), if_pos rfl]
  match r with
  | [] => rfl
  | e :: r1 =>
    rw [escS_cons]
    cases he : escB e with
    | some b => simp [he]
    | none =>
      by_cases h1 : e = 120
      · match r1 with
        | [] => subst h1; simp only [he, if_true]
        | [_] => subst h1; simp only [he, if_true]
        | h :: l :: r2 =>
          subst h1; simp only [he, if_true]; cases xx : hexB h && hexB l <;> simp
      · simp [he, h1]
def escV (s : List UInt8) : AV := .tup [.int .u8 (escS s).1.toNat, .int .i64 ((escS s).2 : Nat)]
theorem u8_no {c k : UInt8} (h : ¬ c = k) : ((c.toNat : Int) = k.toNat) = False := eq_false fun e => h (UInt8.toNat_inj.1 (by omega))
set_option maxHeartbeats 2000000 in
theorem rescape_pure (s : List UInt8) (hs : s.length ≤ 1000000) : Pure Tryz.prog G 83 [.str s] (escV s) := by
  unfold escV
  match s with
  | [] =>
    intro σ
    refine Tri.of_awp mixed Tryz.func83 rfl (by kernel_rfl) (by kernel_rfl) (by simp [Tryz.ntmps83]) Tryz.results83 ?_
    repeat' (first | refine xs ?_ ?_ <;> intros | ((first | refine xh ?_ | refine xi ?_); intro bx hbx; (try simp only [fb] at hbx)) | refine xj ?_ | refine cv_plain ?_ | ((with_reducible refine And.intro ?_ ?_); omega) | refine bo_buildSlice (d' := ⟨⟩) ?_ | refine xk (by kernel_rfl) ?_ | refine xf ?_ (by repeat' first | exact lr _ | assumption | refine ls ?_ ?_ | refine lt ?_ ?_ | simp only [*]; done | simp only [fb, *, not_false_eq_true, and_self]; done | exact lf ‹_› (by simp only [*])) | refine finish_two ?_ (by repeat' first | exact lr _ | assumption | refine ls ?_ ?_ | refine lt ?_ ?_ | simp only [*]; done | simp only [fb, *, not_false_eq_true, and_self]; done | exact lf ‹_› (by simp only [*])) | simp -dsimp only [↓bp, bq, br, seval, tbRScA, *] | refine cv_any ?_)
    all_goals rfl
  | e :: r1 =>
    rw [escS_cons]
    have h0 : (e :: r1)[0]? = some e := rfl
    have hn : (e :: r1 = []) = False := eq_false (by simp)
    by_cases c1 : e = 110
    · have n1 : ((e.toNat : Int) = 110) = True := eq_true (by rw [c1]; rfl)
      have he : escB e = some 10 := by rw [c1]; rfl
      simp only [he]
      generalize e :: r1 = S at *
      clear c1 he
      intro σ
      refine Tri.of_awp mixed Tryz.func83 rfl (by kernel_rfl) (by kernel_rfl) (by simp [Tryz.ntmps83]) Tryz.results83 ?_
      repeat' (first | refine xs ?_ ?_ <;> intros | ((first | refine xh ?_ | refine xi ?_); intro bx hbx; (try simp only [fb] at hbx)) | refine xj ?_ | refine cv_plain ?_ | ((with_reducible refine And.intro ?_ ?_); omega) | refine bo_buildSlice (d' := ⟨⟩) ?_ | refine xk (by kernel_rfl) ?_ | refine xf ?_ (by repeat' first | exact lr _ | assumption | refine ls ?_ ?_ | refine lt ?_ ?_ | simp only [*]; done | simp only [fb, *, not_false_eq_true, and_self]; done | exact lf ‹_› (by simp only [*])) | refine finish_two ?_ (by repeat' first | exact lr _ | assumption | refine ls ?_ ?_ | refine lt ?_ ?_ | simp only [*]; done | simp only [fb, *, not_false_eq_true, and_self]; done | exact lf ‹_› (by simp only [*])) | simp -dsimp only [↓bp, bq, br, seval, tbRScA, *] | refine cv_any ?_)
      all_goals rfl
    have n1 : ((e.toNat : Int) = 110) = False := u8_no c1
    by_cases c2 : e = 116
    · have n2 : ((e.toNat : Int) = 116) = True := eq_true (by rw [c2]; rfl)
      have he : escB e = some 9 := by rw [c2]; rfl
      simp only [he]
      generalize e :: r1 = S at *
      clear c1 c2 he
      intro σ
      refine Tri.of_awp mixed Tryz.func83 rfl (by kernel_rfl) (by kernel_rfl) (by simp [Tryz.ntmps83]) Tryz.results83 ?_
      repeat' (first | refine xs ?_ ?_ <;> intros | ((first | refine xh ?_ | refine xi ?_); intro bx hbx; (try simp only [fb] at hbx)) | refine xj ?_ | refine cv_plain ?_ | ((with_reducible refine And.intro ?_ ?_); omega) | refine bo_buildSlice (d' := ⟨⟩) ?_ | refine xk (by kernel_rfl) ?_ | refine xf ?_ (by repeat' first | exact lr _ | assumption | refine ls ?_ ?_ | refine lt ?_ ?_ | simp only [*]; done | simp only [fb, *, not_false_eq_true, and_self]; done | exact lf ‹_› (by simp only [*])) | refine finish_two ?_ (by repeat' first | exact lr _ | assumption | refine ls ?_ ?_ | refine lt ?_ ?_ | simp only [*]; done | simp only [fb, *, not_false_eq_true, and_self]; done | exact lf ‹_› (by simp only [*])) | simp -dsimp only [↓bp, bq, br, seval, tbRScA, *] | refine cv_any ?_)
      all_goals rfl
    have n2 : ((e.toNat : Int) = 116) = False := u8_no c2
    by_cases c3 : e = 92
    · have n3 : ((e.toNat : Int) = 92) = True := eq_true (by rw [c3]; rfl)
      have he : escB e = some e := by rw [c3]; rfl
      simp only [he]
      generalize e :: r1 = S at *
      clear c1 c2 c3 he
      intro σ
      refine Tri.of_awp mixed Tryz.func83 rfl (by kernel_rfl) (by kernel_rfl) (by simp [Tryz.ntmps83]) Tryz.results83 ?_
      repeat' (first | refine xs ?_ ?_ <;> intros | ((first | refine xh ?_ | refine xi ?_); intro bx hbx; (try simp only [fb] at hbx)) | refine xj ?_ | refine cv_plain ?_ | ((with_reducible refine And.intro ?_ ?_); omega) | refine bo_buildSlice (d' := ⟨⟩) ?_ | refine xk (by kernel_rfl) ?_ | refine xf ?_ (by repeat' first | exact lr _ | assumption | refine ls ?_ ?_ | refine lt ?_ ?_ | simp only [*]; done | simp only [fb, *, not_false_eq_true, and_self]; done | exact lf ‹_› (by simp only [*])) | refine finish_two ?_ (by repeat' first | exact lr _ | assumption | refine ls ?_ ?_ | refine lt ?_ ?_ | simp only [*]; done | simp only [fb, *, not_false_eq_true, and_self]; done | exact lf ‹_› (by simp only [*])) | simp -dsimp only [↓bp, bq, br, seval, tbRScA, *] | refine cv_any ?_)
      all_goals rfl
    have n3 : ((e.toNat : Int) = 92) = False := u8_no c3
    by_cases c4 : e = 39
    · have n4 : ((e.toNat : Int) = 39) = True := eq_true (by rw [c4]; rfl)
      have he : escB e = some e := by rw [c4]; rfl
      simp only [he]
      generalize e :: r1 = S at *
      clear c1 c2 c3 c4 he
      intro σ
      refine Tri.of_awp mixed Tryz.func83 rfl (by kernel_rfl) (by kernel_rfl) (by simp [Tryz.ntmps83]) Tryz.results83 ?_
      repeat' (first | refine xs ?_ ?_ <;> intros | ((first | refine xh ?_ | refine xi ?_); intro bx hbx; (try simp only [fb] at hbx)) | refine xj ?_ | refine cv_plain ?_ | ((with_reducible refine And.intro ?_ ?_); omega) | refine bo_buildSlice (d' := ⟨⟩) ?_ | refine xk (by kernel_rfl) ?_ | refine xf ?_ (by repeat' first | exact lr _ | assumption | refine ls ?_ ?_ | refine lt ?_ ?_ | simp only [*]; done | simp only [fb, *, not_false_eq_true, and_self]; done | exact lf ‹_› (by simp only [*])) | refine finish_two ?_ (by repeat' first | exact lr _ | assumption | refine ls ?_ ?_ | refine lt ?_ ?_ | simp only [*]; done | simp only [fb, *, not_false_eq_true, and_self]; done | exact lf ‹_› (by simp only [*])) | simp -dsimp only [↓bp, bq, br, seval, tbRScA, *] | refine cv_any ?_)
      all_goals rfl
    have n4 : ((e.toNat : Int) = 39) = False := u8_no c4
    by_cases c5 : e = 34
    · have n5 : ((e.toNat : Int) = 34) = True := eq_true (by rw [c5]; rfl)
      have he : escB e = some e := by rw [c5]; rfl
      simp only [he]
      generalize e :: r1 = S at *
      clear c1 c2 c3 c4 c5 he
      intro σ
      refine Tri.of_awp mixed Tryz.func83 rfl (by kernel_rfl) (by kernel_rfl) (by simp [Tryz.ntmps83]) Tryz.results83 ?_
      repeat' (first | refine xs ?_ ?_ <;> intros | ((first | refine xh ?_ | refine xi ?_); intro bx hbx; (try simp only [fb] at hbx)) | refine xj ?_ | refine cv_plain ?_ | ((with_reducible refine And.intro ?_ ?_); omega) | refine bo_buildSlice (d' := ⟨⟩) ?_ | refine xk (by kernel_rfl) ?_ | refine xf ?_ (by repeat' first | exact lr _ | assumption | refine ls ?_ ?_ | refine lt ?_ ?_ | simp only [*]; done | simp only [fb, *, not_false_eq_true, and_self]; done | exact lf ‹_› (by simp only [*])) | refine finish_two ?_ (by repeat' first | exact lr _ | assumption | refine ls ?_ ?_ | refine lt ?_ ?_ | simp only [*]; done | simp only [fb, *, not_false_eq_true, and_self]; done | exact lf ‹_› (by simp only [*])) | simp -dsimp only [↓bp, bq, br, seval, tbRScA, *] | refine cv_any ?_)
      all_goals rfl
    have n5 : ((e.toNat : Int) = 34) = False := u8_no c5
    have he : escB e = none := by unfold escB; rw [if_neg c1, if_neg c2, if_neg (by simp only [c3, c4, c5, or_self, not_false_eq_true])]
    simp only [he]
    by_cases c6 : e = 120
    · have n6 : ((e.toNat : Int) = 120) = True := eq_true (by rw [c6]; rfl)
      rw [if_pos c6]
      match r1 with
      | [] =>
        have hl : ((3 : Int) ≤ ([e] : List UInt8).length) = False := eq_false (by simp)
        generalize [e] = S at *
        clear c1 c2 c3 c4 c5 c6 he hs
        intro σ
        refine Tri.of_awp mixed Tryz.func83 rfl (by kernel_rfl) (by kernel_rfl) (by simp [Tryz.ntmps83]) Tryz.results83 ?_
        repeat' (first | refine xs ?_ ?_ <;> intros | ((first | refine xh ?_ | refine xi ?_); intro bx hbx; (try simp only [fb] at hbx)) | refine xj ?_ | refine cv_plain ?_ | ((with_reducible refine And.intro ?_ ?_); omega) | refine bo_buildSlice (d' := ⟨⟩) ?_ | refine xk (by kernel_rfl) ?_ | refine xf ?_ (by repeat' first | exact lr _ | assumption | refine ls ?_ ?_ | refine lt ?_ ?_ | simp only [*]; done | simp only [fb, *, not_false_eq_true, and_self]; done | exact lf ‹_› (by simp only [*])) | refine finish_two ?_ (by repeat' first | exact lr _ | assumption | refine ls ?_ ?_ | refine lt ?_ ?_ | simp only [*]; done | simp only [fb, *, not_false_eq_true, and_self]; done | exact lf ‹_› (by simp only [*])) | simp -dsimp only [↓bp, bq, br, seval, tbRScA, *] | refine cv_any ?_)
        all_goals rfl
      | [x] =>
        have hl : ((3 : Int) ≤ ([e, x] : List UInt8).length) = False := eq_false (by simp)
        generalize [e, x] = S at *
        clear c1 c2 c3 c4 c5 c6 he hs
        intro σ
        refine Tri.of_awp mixed Tryz.func83 rfl (by kernel_rfl) (by kernel_rfl) (by simp [Tryz.ntmps83]) Tryz.results83 ?_
        repeat' (first | refine xs ?_ ?_ <;> intros | ((first | refine xh ?_ | refine xi ?_); intro bx hbx; (try simp only [fb] at hbx)) | refine xj ?_ | refine cv_plain ?_ | ((with_reducible refine And.intro ?_ ?_); omega) | refine bo_buildSlice (d' := ⟨⟩) ?_ | refine xk (by kernel_rfl) ?_ | refine xf ?_ (by repeat' first | exact lr _ | assumption | refine ls ?_ ?_ | refine lt ?_ ?_ | simp only [*]; done | simp only [fb, *, not_false_eq_true, and_self]; done | exact lf ‹_› (by simp only [*])) | refine finish_two ?_ (by repeat' first | exact lr _ | assumption | refine ls ?_ ?_ | refine lt ?_ ?_ | simp only [*]; done | simp only [fb, *, not_false_eq_true, and_self]; done | exact lf ‹_› (by simp only [*])) | simp -dsimp only [↓bp, bq, br, seval, tbRScA, *] | refine cv_any ?_)
        all_goals rfl
      | h :: l :: r2 =>
        have hl : ((3 : Int) ≤ (e :: h :: l :: r2).length) = True := eq_true (by simp only [List.length_cons]; omega)
        have h1 : (e :: h :: l :: r2)[1]? = some h := rfl
        have h2 : (e :: h :: l :: r2)[2]? = some l := rfl
        simp only
        have qh := rhex_pure G h
        have ql := rhex_pure G l
        generalize e :: h :: l :: r2 = S at *
        clear c1 c2 c3 c4 c5 c6 he hs
        cases xh : hexB h
        · rw [hexI_neg xh] at qh
          simp only [Bool.false_and, Bool.false_eq_true, if_false]
          clear xh
          intro σ
          refine Tri.of_awp mixed Tryz.func83 rfl (by kernel_rfl) (by kernel_rfl) (by simp [Tryz.ntmps83]) Tryz.results83 ?_
          repeat' (first | refine xs ?_ ?_ <;> intros | ((first | refine xh ?_ | refine xi ?_); intro bx hbx; (try simp only [fb] at hbx)) | refine Pure.use (qh) ?_ | refine Pure.head (qh) ?_ | refine Pure.use (ql) ?_ | refine Pure.head (ql) ?_ | refine xj ?_ | refine cv_plain ?_ | ((with_reducible refine And.intro ?_ ?_); omega) | refine bo_buildSlice (d' := ⟨⟩) ?_ | refine xk (by kernel_rfl) ?_ | refine xf ?_ (by repeat' first | exact lr _ | assumption | refine ls ?_ ?_ | refine lt ?_ ?_ | simp only [*]; done | simp only [fb, *, not_false_eq_true, and_self]; done | exact lf ‹_› (by simp only [*])) | refine finish_two ?_ (by repeat' first | exact lr _ | assumption | refine ls ?_ ?_ | refine lt ?_ ?_ | simp only [*]; done | simp only [fb, *, not_false_eq_true, and_self]; done | exact lf ‹_› (by simp only [*])) | simp -dsimp only [↓bp, bq, br, seval, tbRScA, *] | refine cv_any ?_)
          all_goals rfl
        cases xl : hexB l
        · rw [hexI_pos xh] at qh
          rw [hexI_neg xl] at ql
          simp only [Bool.and_false, Bool.false_eq_true, if_false]
          have p1 : ((0 : Int) ≤ ((hexV h : Nat) : Int)) = True := eq_true (by omega)
          clear xh xl
          intro σ
          refine Tri.of_awp mixed Tryz.func83 rfl (by kernel_rfl) (by kernel_rfl) (by simp [Tryz.ntmps83]) Tryz.results83 ?_
          repeat' (first | refine xs ?_ ?_ <;> intros | ((first | refine xh ?_ | refine xi ?_); intro bx hbx; (try simp only [fb] at hbx)) | refine Pure.use (qh) ?_ | refine Pure.head (qh) ?_ | refine Pure.use (ql) ?_ | refine Pure.head (ql) ?_ | refine xj ?_ | refine cv_plain ?_ | ((with_reducible refine And.intro ?_ ?_); omega) | refine bo_buildSlice (d' := ⟨⟩) ?_ | refine xk (by kernel_rfl) ?_ | refine xf ?_ (by repeat' first | exact lr _ | assumption | refine ls ?_ ?_ | refine lt ?_ ?_ | simp only [*]; done | simp only [fb, *, not_false_eq_true, and_self]; done | exact lf ‹_› (by simp only [*])) | refine finish_two ?_ (by repeat' first | exact lr _ | assumption | refine ls ?_ ?_ | refine lt ?_ ?_ | simp only [*]; done | simp only [fb, *, not_false_eq_true, and_self]; done | exact lf ‹_› (by simp only [*])) | simp -dsimp only [↓bp, bq, br, seval, tbRScA, *] | refine cv_any ?_)
          all_goals rfl
        · have b1 := hex_lt h xh
          have b2 := hex_lt l xl
          rw [hexI_pos xh] at qh
          rw [hexI_pos xl] at ql
          simp only [Bool.and_self, if_true]
          have p1 : ((0 : Int) ≤ ((hexV h : Nat) : Int)) = True := eq_true (by omega)
          have p2 : ((0 : Int) ≤ ((hexV l : Nat) : Int)) = True := eq_true (by omega)
          have e1 : IntKind.i64.wrap (16 * (hexV h : Int)) = ((16 * hexV h : Nat) : Int) := by rw [wrap_nat (by omega) (by omega)]; omega
          have e2 : IntKind.i64.wrap (((16 * hexV h : Nat) : Int) + (hexV l : Int)) = ((16 * hexV h + hexV l : Nat) : Int) := by rw [wrap_nat (by omega) (by omega)]; omega
          have hv : IntKind.u8.wrap ((16 * hexV h + hexV l : Nat) : Int) = ((UInt8.ofNat (16 * hexV h + hexV l)).toNat : Int) := by
            rw [UInt8.toNat_ofNat_of_lt' (by show _ < 256; omega)]
            unfold IntKind.wrap; simp [IntKind.signed, IntKind.bits]; omega
          generalize UInt8.ofNat (16 * hexV h + hexV l) = x at *
          generalize 16 * hexV h + hexV l = y at *
          generalize 16 * hexV h = z at *
          generalize hexV h = vh at *
          generalize hexV l = vl at *
          clear xh xl b1 b2
          intro σ
          refine Tri.of_awp mixed Tryz.func83 rfl (by kernel_rfl) (by kernel_rfl) (by simp [Tryz.ntmps83]) Tryz.results83 ?_
          repeat' (first | refine xs ?_ ?_ <;> intros | ((first | refine xh ?_ | refine xi ?_); intro bx hbx; (try simp only [fb] at hbx)) | refine Pure.use (qh) ?_ | refine Pure.head (qh) ?_ | refine Pure.use (ql) ?_ | refine Pure.head (ql) ?_ | refine xj ?_ | refine cv_plain ?_ | ((with_reducible refine And.intro ?_ ?_); omega) | refine bo_buildSlice (d' := ⟨⟩) ?_ | refine xk (by kernel_rfl) ?_ | refine xf ?_ (by repeat' first | exact lr _ | assumption | refine ls ?_ ?_ | refine lt ?_ ?_ | simp only [*]; done | simp only [fb, *, not_false_eq_true, and_self]; done | exact lf ‹_› (by simp only [*])) | refine finish_two ?_ (by repeat' first | exact lr _ | assumption | refine ls ?_ ?_ | refine lt ?_ ?_ | simp only [*]; done | simp only [fb, *, not_false_eq_true, and_self]; done | exact lf ‹_› (by simp only [*])) | simp -dsimp only [↓bp, bq, br, seval, tbRScA, *] | refine cv_any ?_)
          all_goals rfl
    · have n6 : ((e.toNat : Int) = 120) = False := u8_no c6
      rw [if_neg c6]
      generalize e :: r1 = S at *
      clear c1 c2 c3 c4 c5 c6 he
      intro σ
      refine Tri.of_awp mixed Tryz.func83 rfl (by kernel_rfl) (by kernel_rfl) (by simp [Tryz.ntmps83]) Tryz.results83 ?_
      repeat' (first | refine xs ?_ ?_ <;> intros | ((first | refine xh ?_ | refine xi ?_); intro bx hbx; (try simp only [fb] at hbx)) | refine xj ?_ | refine cv_plain ?_ | ((with_reducible refine And.intro ?_ ?_); omega) | refine bo_buildSlice (d' := ⟨⟩) ?_ | refine xk (by kernel_rfl) ?_ | refine xf ?_ (by repeat' first | exact lr _ | assumption | refine ls ?_ ?_ | refine lt ?_ ?_ | simp only [*]; done | simp only [fb, *, not_false_eq_true, and_self]; done | exact lf ‹_› (by simp only [*])) | refine finish_two ?_ (by repeat' first | exact lr _ | assumption | refine ls ?_ ?_ | refine lt ?_ ?_ | simp only [*]; done | simp only [fb, *, not_false_eq_true, and_self]; done | exact lf ‹_› (by simp only [*])) | simp -dsimp only [↓bp, bq, br, seval, tbRScA, *] | refine cv_any ?_)
      all_goals rfl
end
end Go.Proofs.YtldmniappliepaaGreatDoor
