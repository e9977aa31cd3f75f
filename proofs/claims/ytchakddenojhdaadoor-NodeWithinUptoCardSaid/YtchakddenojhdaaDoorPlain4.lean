/- What is so of tuples, matches and calls of two trees: the plain law behind NodeParts. -/
import Derived.Test.YtchakddenojhdaaDoorAwake
set_option linter.unusedVariables false
set_option linter.unusedSimpArgs false
namespace Go.Proofs.YtchakddenojhdaaDoor
open Go Go.Av
def twoN (a b : Node) : Node := .mk 5 [] 0 0 [a, b]
def matN (a b : Node) : Node := .mk 8 [] 0 0 [a, b]
def calN (a b : Node) : Node := .mk 9 [] 0 0 [fN, a, b]
theorem knd_mk (k : UInt8) (s : List UInt8) (n a : Int) (l : List Node) : (Node.mk k s n a l).knd = k.toNat := rfl
theorem item_two (a b : Node) : item (twoN a b) = (item a && item b) := by
  rw [item_eq]
  simp [itemStep, twoN, Node.knd, Node.kind, Node.at_, Node.num, Node.kids, Node.text, shapeOf, shapes, wordedW, kidsW]
theorem item_mat (a b : Node) : item (matN a b) = (item a && item b) := by
  rw [item_eq]
  simp [itemStep, matN, Node.knd, Node.kind, Node.at_, Node.num, Node.kids, Node.text, shapeOf, shapes, wordedW, kidsW]
theorem item_f : item fN = true := by decide +kernel
theorem item_cal (a b : Node) : item (calN a b) = (item a && item b) := by
  rw [item_eq]
  simp [itemStep, calN, Node.knd, Node.kind, Node.at_, Node.num, Node.kids, Node.text, shapeOf, shapes, wordedW, kidsW, item_f]
def fits (t : Node) : Bool := decide ((deep t : Int) ≤ 50) && decide ((many t : Int) ≤ 16384)
theorem right_eq (t : Node) (h : ¬ t.knd = 22) : right t = (item t && fits t) := by
  simp [right, plain, h, fits, Bool.and_assoc]
def pg (p : Node → Bool) (t : Node) : Bool := decide (¬ t.knd = 22) && right t && within p t
theorem within_knd {p : Node → Bool} (hp : ∀ t, p t = true → t.knd ≤ 9) {t : Node} (h : within p t = true) : ¬ t.knd = 22 := by
  rw [within_eq] at h
  simp only [Bool.and_eq_true] at h
  have := hp t h.1
  omega
theorem deep_two (a b : Node) : deep (twoN a b) = max (deep a) (deep b) + 1 := by simp [twoN, deep, deeps]
theorem deep_mat (a b : Node) : deep (matN a b) = max (deep a) (deep b) + 1 := by simp [matN, deep, deeps]
theorem deep_pos (t : Node) : 1 ≤ deep t := by rw [deep_eq]; omega
theorem deep_cal (a b : Node) : deep (calN a b) = max (deep a) (deep b) + 1 := by
  have h1 := deep_pos a
  simp [calN, deep, deeps, fN]; omega
theorem many_two (a b : Node) : many (twoN a b) = many a + many b + 1 := by simp [twoN, many, manys]
theorem many_mat (a b : Node) : many (matN a b) = many a + many b + 1 := by simp [matN, many, manys]
theorem many_cal (a b : Node) : many (calN a b) = many a + many b + 2 := by simp [calN, many, manys, fN]; omega
theorem fits_kids {a b t : Node} (hd : deep t = max (deep a) (deep b) + 1) (hm : many a + many b ≤ many t) (h : fits t = true) : fits a = true ∧ fits b = true := by
  simp only [fits, Bool.and_eq_true, decide_eq_true_eq] at h ⊢
  omega
theorem pg_of {p : Node → Bool} (hp : ∀ t, p t = true → t.knd ≤ 9) {a b t : Node} (hk : ¬ t.knd = 22) (hi : item t = (item a && item b)) (hw : within p t = (within p a && within p b)) (hd : deep t = max (deep a) (deep b) + 1) (hm : many a + many b ≤ many t) :
    pg p t = (fits t && pg p a && pg p b) := by
  unfold pg
  rw [right_eq t hk, hi, hw]
  cases ha : within p a with
  | false => simp
  | true =>
    cases hb : within p b with
    | false => simp
    | true =>
      rw [right_eq a (within_knd hp ha), right_eq b (within_knd hp hb)]
      cases hf : fits t with
      | false => simp
      | true =>
        obtain ⟨h1, h2⟩ := fits_kids hd hm hf
        simp [h1, h2, hk, within_knd hp ha, within_knd hp hb]
theorem patB_knd {t : Node} (h : patB t = true) : t.knd ≤ 9 := by
  simp only [patB, simple, Bool.or_eq_true, Bool.and_eq_true, decide_eq_true_eq] at h
  omega
theorem pattern_two (a b : Node) : pattern (twoN a b) = (fits (twoN a b) && pattern a && pattern b) :=
  pg_of (p := patB) (fun t => patB_knd) (by simp [twoN, Node.knd, Node.kind]) (item_two a b) (by rw [within_eq]; simp [twoN, patB, simple, Node.knd, Node.kind, Node.kids]) (deep_two a b) (by rw [many_two]; omega)
theorem pattern_mat (a b : Node) : pattern (matN a b) = pattern (twoN a b) := by
  rw [pattern_two]
  have hf : fits (matN a b) = fits (twoN a b) := by simp [fits, deep_two, deep_mat, many_two, many_mat]
  rw [← hf]
  exact pg_of (p := patB) (fun t => patB_knd) (by simp [matN, Node.knd, Node.kind]) (item_mat a b) (by rw [within_eq]; simp [matN, patB, simple, Node.knd, Node.kind, Node.kids]) (deep_mat a b) (by rw [many_mat]; omega)
theorem guard_mat (a b : Node) : guard (matN a b) = false := by
  have : within guaB (matN a b) = false := by rw [within_eq]; simp [matN, guaB, simple, Node.knd, Node.kind]
  simp [guard, this]
theorem pattern_cal (a b : Node) : pattern (calN a b) = false := by
  have : within patB (calN a b) = false := by rw [within_eq]; simp [calN, patB, simple, Node.knd, Node.kind]
  simp [pattern, this]
theorem guard_two (a b : Node) : guard (twoN a b) = (fits (twoN a b) && guard a && guard b) :=
  pg_of (p := guaB) (fun t => guaB_knd) (by simp [twoN, Node.knd, Node.kind]) (item_two a b) (by rw [within_eq]; simp [twoN, guaB, simple, Node.knd, Node.kind, Node.kids]) (deep_two a b) (by rw [many_two]; omega)
theorem within_f : within guaB fN = true := by decide +kernel
theorem guard_cal (a b : Node) (h : (many (calN a b) : Int) ≤ 16384) : guard (calN a b) = guard (twoN a b) := by
  rw [guard_two]
  have hf : fits (calN a b) = fits (twoN a b) := by
    rw [many_cal] at h
    have h1 : (many a : Int) + many b + 2 ≤ 16384 := by omega
    have h2 : (many a : Int) + many b + 1 ≤ 16384 := by omega
    simp [fits, deep_two, deep_cal, many_two, many_cal, h1, h2]
  rw [← hf]
  refine pg_of (p := guaB) (fun t => guaB_knd) (by simp [calN, Node.knd, Node.kind]) (item_cal a b) ?_ (deep_cal a b) (by rw [many_cal]; omega)
  rw [within_eq]
  simp [calN, guaB, simple, Node.knd, Node.kind, Node.kids, kid, fN]
  have hf := within_f
  simp only [fN] at hf
  intro _ _
  exact hf
end Go.Proofs.YtchakddenojhdaaDoor
