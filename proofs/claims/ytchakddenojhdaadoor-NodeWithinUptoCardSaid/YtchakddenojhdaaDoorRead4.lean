/- What is read of the arguments: trees; what the program's variables hold. -/
import Derived.Test.YtchakddenojhdaaDoorAvS
import Derived.Test.YtchakddenojhdaaDoorRows
import Derived.Test.YtchakddenojhdaaDoorRight
set_option linter.unusedVariables false
set_option linter.unusedSimpArgs false
set_option maxRecDepth 100000
namespace Go.Proofs.YtchakddenojhdaaDoor
open Go Go.Av Go.RowKit
variable {H : Type}
theorem bulkAll_get {ds : List (DataW H)} {i : Nat} {x : DataW H} (h : ds[i]? = some x) : Rows.uptoBulk x ≤ Rows.uptoBulkAll ds := by
  induction ds generalizing i with
  | nil => simp at h
  | cons y ds ih =>
    simp only [Rows.uptoBulkAll]
    cases i with
    | zero => simp at h; subst h; omega
    | succ i => have := ih (i := i) (by simpa using h); omega
theorem bulks_le {l : List Node} {xs : List (DataW H)} (hl : l.length = xs.length) (h : ∀ (i : Nat) x a, xs[i]? = some x → l[i]? = some a → a.bulk ≤ Rows.uptoBulk x) : bulks l ≤ Rows.uptoBulkAll xs := by
  induction l generalizing xs with
  | nil => simp [bulks]
  | cons a l ih =>
    cases xs with
    | nil => simp at hl
    | cons x xs =>
      have h0 := h 0 x a rfl rfl
      have h1 := ih (xs := xs) (by simpa using hl) (fun i y b hy hb => h (i + 1) y b (by simpa using hy) (by simpa using hb))
      simp only [bulks, Rows.uptoBulkAll]; omega
theorem u8_of {m : Int} (h : (Lit.int .u8 m).wf = true) : ∃ k : UInt8, m = (k.toNat : Int) := by
  have hr : 0 ≤ m ∧ m < 256 := by
    have h0 : IntKind.u8.min = 0 := by decide
    have h1 : IntKind.u8.max = 255 := by decide
    simp only [Lit.wf, Bool.and_eq_true, decide_eq_true_eq, h0, h1] at h
    omega
  refine ⟨UInt8.ofNat m.toNat, ?_⟩
  rw [UInt8.toNat_ofNat']
  omega
theorem read_node : ∀ (n : Nat) (d : DataW H), tyW Tryd.prog n 25 d → ∃ t : Node, avW d = t.enc ∧ t.bulk ≤ Rows.uptoBulk d := by
  intro n
  induction n using Nat.strongRecOn with
  | _ n ih =>
    intro d h
    obtain ⟨ds, m, rfl, rfl, hl, hf⟩ := tyW_struct h Tryd.underlying25
    match ds, hl with
    | [d0, d1, d2, d3, d4], _ =>
      obtain ⟨k, rfl, hk⟩ := tyW_int (hf 0 _ d0 rfl rfl) Tryd.underlying22
      obtain ⟨s, rfl, _⟩ := tyW_str (hf 1 _ d1 rfl rfl) Tryd.underlying9
      obtain ⟨nn, rfl, _⟩ := tyW_int (hf 2 _ d2 rfl rfl) Tryd.underlying3
      obtain ⟨aa, rfl, _⟩ := tyW_int (hf 3 _ d3 rfl rfl) Tryd.underlying3
      obtain ⟨xs, sp, q, hx, hq, hxs⟩ := tyW_slice (hf 4 _ d4 rfl rfl) Tryd.underlying23
      obtain ⟨k', rfl⟩ := u8_of hk
      obtain ⟨l, h1, h2, h3⟩ := slice_dec (enc := Node.enc) (good := fun x a => a.bulk ≤ Rows.uptoBulk x) (fun x hx => ih q (by omega) x hx) xs hxs
      have hb := bulks_le h2 h3
      refine ⟨.mk k' s nn aa l, ?_, ?_⟩
      · rcases hx with ⟨rfl, rfl⟩ | rfl
        · simp only [avWs, List.length_nil, List.length_eq_zero_iff] at h1 h2
          subst h2
          simp [avW, flatsW, flat, Node.enc]
        · simp [avW, flatsW, flat, Node.enc, h1]
      · rw [Node.bulk]
        rcases hx with ⟨rfl, rfl⟩ | rfl <;> simp only [Rows.uptoBulk, Rows.uptoBulkAll] at hb ⊢ <;> omega
/-- the types of what is read -/
def S : List TypeId := [25, 22, 9, 3, 23, 45, 46, 5]
theorem closedS : closedT Tryd.prog S = true := by kernel_rfl
/-- the program's variables, as abstract values -/
def Gv (m : Int) : Nat → AV := fun g => if g = 0 then .rp shapeCells else if g = 1 then .rp [.int .i64 m] else .raw (.pointer (some ⟨g, 0, none⟩))
theorem globGv (m : Int) : Glob (Gv m) := ⟨rfl, m, rfl⟩
theorem shapes_av : flat (avW (H := Unit) Rows.laid_pigeonhole_node_shapes) = shapeCells := by
  simp [Rows.laid_pigeonhole_node_shapes, avW, flatsW, flat, shapeCells, shapes, Shape.cells]
theorem entry_glob {W : World} {laid : List (String × DataW Unit)} (hL : laidMetH Tryd.prog laid W) (hl : laid = [("unicode/utf8.acceptRanges", Rows.laid_unicode_utf8_acceptRanges), ("pigeonhole/node.shapes", Rows.laid_pigeonhole_node_shapes), ("unicode/utf8.first", Rows.laid_unicode_utf8_first)])
    (hsh : W.ShapedOpen Tryd.prog) : ∃ m, ∀ g, VR (entryK W) (Gv m g) (.pointer (some ⟨g, 0, none⟩)) := by
  subst hl
  have hL' : laidMet Tryd.prog [("unicode/utf8.acceptRanges", Rows.laid_unicode_utf8_acceptRanges), ("pigeonhole/node.shapes", Rows.laid_pigeonhole_node_shapes), ("unicode/utf8.first", Rows.laid_unicode_utf8_first)] W := hL
  have h0 : VR (entryK W) (.rp shapeCells) (.pointer (some ⟨0, 0, none⟩)) :=
    laid_glob closedS hL' (n := "pigeonhole/node.shapes") (by simp) (g := 0) (t := 46) (by kernel_rfl) (by kernel_rfl) (by decide) shapes_av
  have h1 : ∃ m, W.cell? ⟨1, 0, none⟩ = some (.int .i64 m) :=
    Go.Proofs.cell_of_shapedOpen_int (zero := #[.int .i64 0]) (t := 3) hsh (of_decide_eq_true (by kernel_rfl)) (by kernel_rfl) rfl (by kernel_rfl) (by kernel_rfl) Tryd.underlying3
  obtain ⟨m, h1⟩ := int_glob h1
  refine ⟨m, fun g => ?_⟩
  unfold Gv
  by_cases hg0 : g = 0
  · subst hg0; exact h0
  · by_cases hg1 : g = 1
    · subst hg1; exact h1
    · rw [if_neg hg0, if_neg hg1]; exact .raw _
end Go.Proofs.YtchakddenojhdaaDoor
