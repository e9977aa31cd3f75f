/- What is so of a tree in a tuple, of a tree with another place, of a right tree's kids: the plain law behind NodeWithin. -/
import Derived.Test.YtchakddenojhdaaDoorPlain4
set_option linter.unusedVariables false
set_option linter.unusedSimpArgs false
namespace Go.Proofs.YtchakddenojhdaaDoor
open Go Go.Av
def tupN (t : Node) : Node := .mk 5 [] 0 0 [t]
def setAt (t : Node) (a : Int) : Node := .mk t.kind t.text t.num a t.kids
theorem item_tup (t : Node) : item (tupN t) = item t := by
  rw [item_eq]
  simp [itemStep, tupN, Node.knd, Node.kind, Node.at_, Node.num, Node.kids, Node.text, shapeOf, shapes, wordedW, kidsW]
theorem deep_tup (t : Node) : deep (tupN t) = deep t + 1 := by simp [tupN, deep, deeps]
theorem many_tup (t : Node) : many (tupN t) = many t + 1 := by simp [tupN, many, manys]
theorem right_tup (t : Node) (h : ¬ t.knd = 22) : right (tupN t) = (right t && decide ((deep t : Int) < 50) && decide ((many t : Int) < 16384)) := by
  rw [right_eq t h, right_eq (tupN t) (by simp [tupN, Node.knd, Node.kind]), item_tup]
  cases item t with
  | false => simp
  | true =>
    simp only [fits, deep_tup, many_tup, Bool.true_and]
    rw [Bool.eq_iff_iff]
    simp only [Bool.and_eq_true, decide_eq_true_eq]
    omega
theorem same_self (t : Node) : same t t = true := by
  refine Node.ind (P := fun t => same t t = true) (fun t ih => ?_) t
  rw [same_eq]
  simp only [decide_true, Bool.true_and]
  exact sames_of rfl fun i h1 h2 => ih _ (List.getElem_mem h1)
theorem same_at (t : Node) (a : Int) : same t (setAt t a) = true := by
  have h := same_self t
  rw [same_eq] at h ⊢
  exact h
theorem plain_at (t : Node) (a k : Int) (h : 0 ≤ a) (h2 : 0 ≤ t.at_) : plain (setAt t a) k = plain t k := by
  have e : plain (setAt t a) k = (decide (t.knd = k) && decide (t.text = []) && decide (t.num = 0) && decide (0 ≤ a)) := rfl
  rw [e]
  unfold plain
  simp [h, h2]
theorem item_at (t : Node) (a : Int) (h : 0 ≤ a) (h2 : 0 ≤ t.at_) : item (setAt t a) = item t := by
  rw [item_eq, item_eq t]
  have e1 : ¬ (setAt t a).at_ < 0 := by show ¬ a < 0; omega
  have e2 : ¬ t.at_ < 0 := by omega
  unfold itemStep
  simp only [e1, e2]
  rfl
theorem deep_at (t : Node) (a : Int) : deep (setAt t a) = deep t := by rw [deep_eq, deep_eq t]; rfl
theorem many_at (t : Node) (a : Int) : many (setAt t a) = many t := by rw [many_eq, many_eq t]; rfl
theorem right_at (t : Node) (a : Int) (h : 0 ≤ a) (h2 : 0 ≤ t.at_) : right (setAt t a) = right t := by
  unfold right
  rw [plain_at t a 22 h h2, item_at t a h h2, deep_at, many_at]
  rfl
theorem not_right {t : Node} (h : right t = false) : pattern t = false ∧ guard t = false := by simp [pattern, guard, h]
theorem deep_kid {l : List Node} {x : Node} (h : x ∈ l) : deep x ≤ deeps l := by
  induction l with
  | nil => cases h
  | cons y l ih =>
    simp only [deeps]
    rcases List.mem_cons.1 h with rfl | h
    · omega
    · have := ih h; omega
theorem many_kid {l : List Node} {x : Node} (h : x ∈ l) : many x ≤ manys l := by
  induction l with
  | nil => cases h
  | cons y l ih =>
    simp only [manys]
    rcases List.mem_cons.1 h with rfl | h
    · omega
    · have := ih h; omega
theorem right_kids {t : Node} (h : right t = true) (hk : t.knd ≤ 9 ∨ t.knd = 19) : ∀ x, x ∈ t.kids → right x = true := by
  have hn : ¬ t.knd = 22 := by omega
  rw [right_eq t hn] at h
  simp only [Bool.and_eq_true, fits, decide_eq_true_eq] at h
  intro x hx
  have h1 := item_kids h.1 hk x hx
  have h2 := deep_kid hx
  have h3 := many_kid hx
  have h4 := deep_eq t
  have h5 := many_eq t
  simp only [right, h1, Bool.or_true, Bool.true_and, Bool.and_eq_true, decide_eq_true_eq]
  omega
theorem bulk_tup (t : Node) : (tupN t).bulk = t.bulk + 1 := by simp [tupN, Node.bulk, bulks]
theorem bulk_at (t : Node) (a : Int) : (setAt t a).bulk = t.bulk := by rw [Node.bulk_eq, Node.bulk_eq t]; rfl
theorem fold_at (t : Node) (a : Int) : AV.agg [.int .u8 t.knd, .str t.text, .int .i64 t.num, .int .i64 a, encs t.kids] = (setAt t a).enc := (setAt t a).fold_enc
end Go.Proofs.YtchakddenojhdaaDoor
