/- What is read of the arguments: terms; what the program's variables hold. -/
import Derived.Test.YtpginpbcndlfmaaDoorZB
import Derived.Test.YtpginpbcndlfmaaDoorRows
import Derived.Test.YtpginpbcndlfmaaDoorZTText
set_option linter.unusedVariables false
set_option linter.unusedSimpArgs false
set_option maxRecDepth 100000
namespace Go.Proofs.YtpginpbcndlfmaaDoor
open Go Go.Av Go.RowKit
variable {H : Type}
theorem bulks_le {l : List Term} {xs : List (DataW H)} (hl : l.length = xs.length) (h : ∀ (i : Nat) x a, xs[i]? = some x → l[i]? = some a → a.bulk ≤ Rows.uptoBulk x) : bulks l ≤ Rows.uptoBulkAll xs := by
  induction l generalizing xs with
  | nil => simp [bulks]
  | cons a l ih =>
    cases xs with
    | nil => simp at hl
    | cons x xs =>
      have h0 := h 0 x a rfl rfl
      have h1 := ih (xs := xs) (by simpa using hl) (fun i y b hy hb => h (i + 1) y b (by simpa using hy) (by simpa using hb))
      simp only [bulks, Rows.uptoBulkAll]; omega
theorem lims_le {l : List UInt32} {xs : List (DataW H)} (hl : l.length = xs.length) (h : ∀ (i : Nat) x (a : UInt32), xs[i]? = some x → l[i]? = some a → 1 ≤ Rows.uptoBulk x) : l.length ≤ Rows.uptoBulkAll xs := by
  induction l generalizing xs with
  | nil => simp
  | cons a l ih =>
    cases xs with
    | nil => simp at hl
    | cons x xs =>
      have h0 := h 0 x a rfl rfl
      have h1 := ih (xs := xs) (by simpa using hl) (fun i y b hy hb => h (i + 1) y b (by simpa using hy) (by simpa using hb))
      simp only [List.length_cons, Rows.uptoBulkAll]; omega
theorem u8_of {m : Int} (h : (Lit.int .u8 m).wf = true) : ∃ k : UInt8, m = (k.toNat : Int) := by
  have hr : 0 ≤ m ∧ m < 256 := by
    have h0 : IntKind.u8.min = 0 := by decide
    have h1 : IntKind.u8.max = 255 := by decide
    simp only [Lit.wf, Bool.and_eq_true, decide_eq_true_eq, h0, h1] at h
    omega
  refine ⟨UInt8.ofNat m.toNat, ?_⟩
  rw [UInt8.toNat_ofNat']
  omega
theorem u32_of {m : Int} (h : (Lit.int .u32 m).wf = true) : ∃ k : UInt32, m = (k.toNat : Int) := by
  have hr : 0 ≤ m ∧ m < 4294967296 := by
    have h0 : IntKind.u32.min = 0 := by decide
    have h1 : IntKind.u32.max = 4294967295 := by decide
    simp only [Lit.wf, Bool.and_eq_true, decide_eq_true_eq, h0, h1] at h
    omega
  refine ⟨UInt32.ofNat m.toNat, ?_⟩
  rw [UInt32.toNat_ofNat']
  omega
theorem read_term : ∀ (n : Nat) (d : DataW H), tyW Tryd.prog n 40 d → ∃ t : Term, avW d = t.enc ∧ t.bulk ≤ Rows.uptoBulk d := by
  intro n
  induction n using Nat.strongRecOn with
  | _ n ih =>
    intro d h
    obtain ⟨ds, m, rfl, rfl, hl, hf⟩ := tyW_struct h Tryd.underlying40
    match ds, hl with
    | [d0, d1, d2, d3, d4, d5, d6], _ =>
      obtain ⟨k, rfl, hk⟩ := tyW_int (hf 0 _ d0 rfl rfl) Tryd.underlying37
      obtain ⟨g, rfl⟩ := tyW_bool (hf 1 _ d1 rfl rfl) Tryd.underlying4
      obtain ⟨xs, sp, q, hx, hq, hxs⟩ := tyW_slice (hf 2 _ d2 rfl rfl) Tryd.underlying38
      obtain ⟨s, rfl, _⟩ := tyW_str (hf 3 _ d3 rfl rfl) Tryd.underlying9
      obtain ⟨nn, rfl, _⟩ := tyW_int (hf 4 _ d4 rfl rfl) Tryd.underlying3
      obtain ⟨ys, sq, q2, hy, hq2, hys⟩ := tyW_slice (hf 5 _ d5 rfl rfl) Tryd.underlying22
      obtain ⟨zs, sr, q3, hz, hq3, hzs⟩ := tyW_slice (hf 6 _ d6 rfl rfl) Tryd.underlying22
      obtain ⟨k', rfl⟩ := u8_of hk
      obtain ⟨l, h1, h2, h3⟩ := slice_dec (enc := limA) (good := fun x _ => 1 ≤ Rows.uptoBulk x) (fun x hx => by
        obtain ⟨z, rfl, hz⟩ := tyW_int hx Tryd.underlying61
        obtain ⟨z', rfl⟩ := u32_of hz
        exact ⟨z', by simp [avW, limA], by simp [Rows.uptoBulk]⟩) xs hxs
      obtain ⟨l2, i1, i2, i3⟩ := slice_dec (enc := Term.enc) (good := fun x a => a.bulk ≤ Rows.uptoBulk x) (fun x hx => ih q2 (by omega) x hx) ys hys
      obtain ⟨l3, j1, j2, j3⟩ := slice_dec (enc := Term.enc) (good := fun x a => a.bulk ≤ Rows.uptoBulk x) (fun x hx => ih q3 (by omega) x hx) zs hzs
      have hb := lims_le h2 h3
      have hb2 := bulks_le i2 i3
      have hb3 := bulks_le j2 j3
      refine ⟨.mk k' g l s nn l2 l3, ?_, ?_⟩
      · have e1 : flat (avW d2) = [lims l] := by
          rcases hx with ⟨rfl, rfl⟩ | rfl
          · simp only [avWs, List.length_nil, List.length_eq_zero_iff] at h1 h2
            subst h2
            simp [avW, flat, lims]
          · simp [avW, flat, lims, h1]
        have e2 : flat (avW d5) = [.sl .none (l2.map Term.enc) []] := by
          rcases hy with ⟨rfl, rfl⟩ | rfl
          · simp only [avWs, List.length_nil, List.length_eq_zero_iff] at i1 i2
            subst i2
            simp [avW, flat]
          · simp [avW, flat, i1]
        have e3 : flat (avW d6) = [.sl .none (l3.map Term.enc) []] := by
          rcases hz with ⟨rfl, rfl⟩ | rfl
          · simp only [avWs, List.length_nil, List.length_eq_zero_iff] at j1 j2
            subst j2
            simp [avW, flat]
          · simp [avW, flat, j1]
        have e4 : avW (.agg [.lit (.int .u8 (k'.toNat : Int)), .lit (.bool g), d2, .lit (.string s), .lit (.int .i64 nn), d5, d6] : DataW H) = .agg (flat (.int .u8 (k'.toNat : Int)) ++ (flat (.bool g) ++ (flat (avW d2) ++ (flat (.str s) ++ (flat (.int .i64 nn) ++ (flat (avW d5) ++ (flat (avW d6) ++ []))))))) := by
          simp [avW, flatsW]
        rw [e4, e1, e2, e3]
        simp [flat, Term.enc, lims]
      · rw [Term.bulk]
        rcases hx with ⟨rfl, rfl⟩ | rfl <;> rcases hy with ⟨rfl, rfl⟩ | rfl <;> rcases hz with ⟨rfl, rfl⟩ | rfl <;> simp only [Rows.uptoBulk, Rows.uptoBulkAll] at hb hb2 hb3 ⊢ <;> omega
/-- the types of what is read -/
def S : List TypeId := [40, 37, 4, 38, 61, 9, 3, 22, 94, 5, 97, 107]
theorem closedS : closedT Tryd.prog S = true := by kernel_rfl
/-- the program's variables, as abstract values -/
def Gv : Nat → AV := fun g => if g = 0 then .rp (words.map AV.str) else if g = 2 then .tab powV else .raw (.pointer (some ⟨g, 0, none⟩))
theorem globGv : GlobT Gv := { words := rfl, pow := rfl }
/-- a listed variable, with its whole block -/
theorem laid_tab {P : Program} {W : World} {S : List TypeId} (hS : closedT P S = true) {laid : List (String × DataW Unit)} (hL : laidMet P laid W) {n : String} {d : DataW Unit} (hm : (n, d) ∈ laid) {g : Nat} {t : TypeId} (hg : P.globalNamed n = some g)
    (ht : (P.globals[g]?).map (·.type) = some t) (htS : t ∈ S) {k : IntKind} {zs : List Int} (hcs : flat (avW d) = zs.map fun z => .int k z) : VR (entryK W) (.tab (zs.map fun z => .int k z)) (.pointer (some ⟨g, 0, none⟩)) := by
  obtain ⟨ps, h1, _⟩ := hL
  obtain ⟨g', t', vs, fuel, p, hg', ht', hvar, hd⟩ := laidVars_mem laid ps h1 hm
  obtain rfl := Option.some.inj (hg.symm.trans hg')
  obtain rfl := Option.some.inj (ht.symm.trans ht')
  obtain ⟨_, h2, _⟩ := read_all (K := entryK W) hS (fun b o v h => h) fuel t _ _ htS hd
  simp only [hcs] at h2
  have hsz := h2.size
  have hv : vs = (zs.map fun z => Value.int k z).toArray := by
    apply Array.toList_inj.1
    refine List.ext_getElem? fun j => ?_
    by_cases hj : j < zs.length
    · have h3 := h2.at_ j (by simpa using hj)
      simp only [List.getElem_map, VR.int_iff] at h3
      have hj2 : j < vs.toList.length := by rw [hsz]; simpa using hj
      rw [List.getD_eq_getElem?_getD, List.getElem?_eq_getElem hj2] at h3
      simp only [Option.getD_some] at h3
      rw [List.getElem?_eq_getElem hj2, h3]
      simp [hj]
    · rw [List.getElem?_eq_none (by simp at hsz ⊢; omega), List.getElem?_eq_none (by simp; omega)]
  unfold World.var? at hvar
  rw [hg] at hvar
  simp only [Option.bind_some] at hvar
  cases hw : W.heap[g]? with
  | none => rw [hw] at hvar; simp at hvar
  | some o =>
    rw [hw] at hvar
    cases o with
    | cells cs E fz =>
      simp only [Option.some.injEq] at hvar
      subst hvar
      rw [hv] at hw
      exact .tab _ g E fz (Array.getElem?_eq_some_iff.1 hw).1 hw
    | _ => simp at hvar
theorem entry_glob {W : World} {laid : List (String × DataW Unit)} (hL : laidMetH Tryd.prog laid W) (hl : laid = [("math/bits.deBruijn32tab", Rows.laid_math_bits_deBruijn32tab), ("math/bits.deBruijn64tab", Rows.laid_math_bits_deBruijn64tab), ("internal/strconv.uint64pow10", Rows.laid_internal_strconv_uint64pow10), ("pigeonhole/term.words", Rows.laid_pigeonhole_term_words)]) :
    ∀ g, VR (entryK W) (Gv g) (.pointer (some ⟨g, 0, none⟩)) := by
  subst hl
  have hL' : laidMet Tryd.prog [("math/bits.deBruijn32tab", Rows.laid_math_bits_deBruijn32tab), ("math/bits.deBruijn64tab", Rows.laid_math_bits_deBruijn64tab), ("internal/strconv.uint64pow10", Rows.laid_internal_strconv_uint64pow10), ("pigeonhole/term.words", Rows.laid_pigeonhole_term_words)] W := hL
  have h0 : VR (entryK W) (.rp (words.map AV.str)) (.pointer (some ⟨0, 0, none⟩)) :=
    laid_glob closedS hL' (n := "pigeonhole/term.words") (d := Rows.laid_pigeonhole_term_words) (by simp) (g := 0) (t := 94) (by kernel_rfl) (by kernel_rfl) (by decide) (by kernel_rfl)
  have h1 : VR (entryK W) (.tab powV) (.pointer (some ⟨2, 0, none⟩)) :=
    laid_tab closedS hL' (n := "internal/strconv.uint64pow10") (d := Rows.laid_internal_strconv_uint64pow10) (by simp) (g := 2) (t := 107) (k := .u64) (zs := Lib.pow10Tab) (by kernel_rfl) (by kernel_rfl) (by decide) (by kernel_rfl)
  intro g
  unfold Gv
  by_cases hg0 : g = 0
  · subst hg0; exact h0
  · by_cases hg1 : g = 2
    · subst hg1; exact h1
    · rw [if_neg hg0, if_neg hg1]; exact .raw _
end Go.Proofs.YtpginpbcndlfmaaDoor
